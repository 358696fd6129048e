import Derived.Test.YtmngikblgfodnaaGreatDoorH1
import Derived.ChangeKeysEq
import Derived.Laws.StructEq
import Derived.Defers
import Derived.Recover
import Derived.Test.YtmngikblgfodnaaGreatDoorProg
set_option linter.unusedVariables false
set_option linter.unusedSimpArgs false
set_option linter.unusedSectionVars false
namespace Go.Sx
open Go
section
variable {P:Program} {H:Hp}
theorem aj.int{t e:Nat}{kd:IntKind}{x:Int}{K:zV->Hp->Prop}(h1:P.underlying t=some (.slice e))(h2:cA P e=some 1)(h3:dV P e=some (.int kd 0))
 (h:∀b,K (.slice (some ⟨b,0,none⟩) 1 1) ((b,.cells (aA kd [x]) e zZ)::H)):aj P t 1 [(0,.int kd x)] H K:=by
 refine⟨aA kd [x],e,1,_,h1,h2,h3,by decide,?_,λb _=>h b⟩;have e1:Array.range 1=#[0]:=rfl;simp[Instr.fill,Value.cells,aA,e1]
theorem aj.none{t e k:Nat}{z:zV}{K:zV->Hp->Prop}(h1:P.underlying t=some (.slice e))(h2:cA P e=some k)(h3:dV P e=some z)
 (h:∀b,K (.slice (some ⟨b,0,none⟩) 0 0) ((b,.cells #[] e zZ)::H)):aj P t 0 [] H K:=by
 refine⟨_,e,k,z,h1,h2,h3,by simp,rfl,λb _=>?_⟩;have:((Array.range (0*k)).map λi=>z.cells[i%z.cells.size]!)=#[]:=by simp
 rw[this];exact h b
def qz(T:TypeId)(v:zV)(ts:List Tb)(C B:Hp):Prop:=∃rs,aM T 2 v rs C/\rR (R8 B) rs ts
theorem qz.nil{T:TypeId}{B:Hp}:qz T (.slice none 0 0) [] [] B:=⟨[],aM.nil _ _,rR.nil⟩
theorem qz.mono{T:TypeId}{v:zV}{ts:List Tb}{C B B':Hp}(h:qz T v ts C B)(hs:∀x∈B,x∈B'):qz T v ts C B':=let ⟨rs,h1,h2⟩:=h;⟨rs,h1,h2.mono λ_ _ h=>h.mono hs⟩
theorem qz.adQ{T:TypeId}{v:zV}{ts:List Tb}{C B B':Hp}(h:qz T v ts C B)(hc:∀x∈C,x∈B')(hb:∀x∈B,x∈B'):iq B' v ts:=by
 obtain⟨rs,h1,h2⟩:=h;exact⟨rs,(Sl.fZ h1 zD).mono hc,h2.mono λ_ _ h=>h.mono hb⟩
theorem qz.app{T:TypeId}{v:zV}{ts:List Tb}{C B0 A B:Hp}(h:qz T v ts C B0){xb xc:Nat}{t:Tb}{s:zV}{xT:TypeId}{fz:Nat×Nat}(hx:(xb,Obj.cells #[.int .i64 t.n,s] xT fz)∈A++(C++B))(hw:Words B0 s t.ws)
 (hl:ts.length<4398046511103){K:zV->Hp->Prop}(hk:∀v' C',qz T v' (ts++[t]) C' B0->K v' (A++(C'++B))):App P T 2 32 (.agg #[.int .i64 0,.slice none 0 0]) (A++(C++B)) v (.slice (some ⟨xb,0,none⟩) 1 xc) K:=by
 obtain⟨rs,h1,h2⟩:=h;have hs:s.oneCell'=true:=by obtain⟨a,c,rfl,_⟩:=hw.1.shape;rfl
 have Nu:=h2.1;refine h1.E5 (r:=[.int .i64 t.n,s]) hx rfl (λu hu=>by simp only[xag,xaw,xaZ]at hu;rcases hu with rfl|rfl;rfl;exact hs) ⟨[.int .i64 0,.slice none 0 0],rfl,rfl⟩ zO zO λv' C' ho=>hk v' C' ⟨_,ho,h2.snoc ⟨s,rfl,hw⟩⟩
def bF(l:List UInt8):List (List zV):=l.map λb=>[Value.int .u8 b.toNat]
theorem qZ(l:List UInt8):rows (bF l)=(l.map λb=>Value.int .u8 b.toNat).toArray:=by
 unfold rows bF;congr 1;induction l with
 |nil=>rfl
 |cons b r ih=>simp[ih]
theorem dK.own{T:TypeId}{v:zV}{l:List UInt8}{C:Hp}(h:aM T 1 v (bF l) C)(hs:∀x∈C,x∈H){K:zV->Prop}(hk:K (.string ⟨l.toArray⟩)):dK H v K:=by
 obtain⟨a,cap,h1,h2⟩:=((Sl.fZ h zD).mono hs).cells;refine⟨a,_,cap,l,h1,?_,by simp[bF],hk⟩;rw[qZ,xcc]at h2;exact h2
def aq(l:List UInt8):zV:=.string ⟨l.toArray⟩
theorem pL(a b:List UInt8):((⟨a.toArray⟩:ByteArray)==⟨b.toArray⟩)=decide (a=b):=by
 rw[beq_toListBytes,ByteArray.toList_eq,ByteArray.toList_eq];simp only[xdG];rw[xcQ];simp
theorem iW(a b:List UInt8):Instr.sameNow .string (aq a) (aq b)=some (decide (a=b)):=by
 show some _=some _;rw[pL]
theorem xp(a:List UInt8):Instr.sameBits 10000 (aq a) (aq a)=true:=by
 show((⟨a.toArray⟩:ByteArray)==⟨a.toArray⟩)=true;rw[pL];simp
theorem ae.AT{a b:List UInt8}{k:zV->Prop}(h:k (.bool (decide (a≠b)))):ae .str .neq (aq a) (aq b) k:=by
 refine⟨_,rfl,?_⟩;have:(!((⟨a.toArray⟩:ByteArray).toList==(⟨b.toArray⟩:ByteArray).toList))=decide (a≠b):=by
  rw[<-beq_toListBytes,pL];simp
 rw[this];exact h
def fS(n:Nat)(B:Hp)(es:Array MapEntry)(ck:Nat)(m:List (List UInt8×zL)):Prop:=
 aT aq (λv ws=>DD B v ⟨n,ws⟩) es ck m/\∀x∈m,x.1=ak.gx x.2/\ak.dA n x.2
theorem fS.mono{n:Nat}{B B':Hp}{es:Array MapEntry}{ck:Nat}{m:List (List UInt8×zL)}(h:fS n B es ck m)(hs:∀x∈B,x∈B'):fS n B' es ck m:=⟨h.1.mono λ_ _ h=>h.mono hs,h.2⟩
theorem fS.empty(n:Nat)(B:Hp):fS n B #[] 0 []:=⟨aT.empty,by simp⟩
def yW(m:List (List UInt8×zL))(ws:zL):List (List UInt8×zL):=cY m (ak.gx ws) ws
theorem fS.nodup{n:Nat}{B:Hp}{es:Array MapEntry}{ck:Nat}{m:List (List UInt8×zL)}(h:fS n B es ck m):(m.map Prod.snd).Nodup:=by
 have h1:=h.1.nd;have e:m.map Prod.fst=(m.map Prod.snd).map ak.gx:=by
  rw[xbR];apply xbr;intro x hx;exact(h.2 x hx).1
 rw[e]at h1;exact List.Pairwise.of_map ak.gx (λa b hne e=>hne (by rw[e])) h1
theorem qS{n:Nat}{m:List (List UInt8×zL)}{ws:zL}(hm:∀x∈m,x.1=ak.gx x.2/\ak.dA n x.2)(hf:ak.dA n ws):∀x,x∈(yW m ws).map Prod.snd↔x∈m.map Prod.snd\/x=ws:=by
 intro x;unfold yW cY;split
 ·rename_i hk;obtain⟨y,hy,hky⟩:=xam.1 hk;have hyw:y.2=ws:=(hm y hy).2.key_inj hf (by rw[<-(hm y hy).1,hky]);have:(m.map λy=>if y.1=ak.gx ws then(ak.gx ws,ws)else y)=m:=by
   conv=>rhs;rw[<-xej m]
   apply xbr;intro z hz;split
   ·rename_i hzk;have:z.2=ws:=(hm z hz).2.key_inj hf (by rw[<-(hm z hz).1,hzk]);simp only[id];rw[<-hzk,<-this]
   rfl
  rw[this];constructor
  ·exact .inl
  rintro(h|rfl)
  ·exact h
  exact xam.2 ⟨y,hy,hyw⟩
 simp
theorem S9{n:Nat}{m:List (List UInt8×zL)}{ws:zL}(hm:∀x∈m,x.1=ak.gx x.2/\ak.dA n x.2)(hf:ak.dA n ws):∀x∈yW m ws,x.1=ak.gx x.2/\ak.dA n x.2:=by
 intro x hx;unfold yW cY at hx;split at hx
 ·obtain⟨y,hy,rfl⟩:=xam.1 hx;split
  ·exact⟨rfl,hf⟩
  exact hm y hy
 rcases xaq.1 hx with hx|hx
 ·exact hm x hx
 simp at hx;subst hx;exact⟨rfl,hf⟩
theorem fS.bT{n:Nat}{B:Hp}{es:Array MapEntry}{ck b:Nat}{m:List (List UInt8×zL)}{ws:zL}{val:zV}{K:Hp->Prop}(h:fS n B es ck m)(hv:DD B val ⟨n,ws⟩)(hf:ak.dA n ws)
 (h1:∀es' cC,fS n B es' cC (yW m ws)->∃H',cu b (.map es ck) (.map es' cC) H H'/\K H'):dJ .string H (.map (some b)) (aq (ak.gx ws)) val K:=
 aT.bT iW xp h.1 hv λes' cC he=>h1 es' cC ⟨he,S9 h.2 hf⟩
end
end Go.Sx
namespace Go.Sx
open Go
section
variable {P:Program} {g:Gh} {H:Hp}
theorem aM.apps{elem k bytes:Nat}{zero:zV}{v:zV}{rs:List (List zV)}{C A B:Hp}(h:aM elem k v rs C){xa:Option Addr}{xc:Nat}{r2:List (List zV)}
 (hx:Cells (A++(C++B)) xa (r2.length*k) (rows r2))(hr:∀r∈r2,r.length=k)(h1:∀r∈r2,∀u∈r,u.oneCell'=true)(hz:∃z:List zV,zero.cells=z.toArray/\z.length=k)
 (hb:(rs.length+r2.length)*bytes<=140737488355328)(cJ:rs.length+r2.length<=9223372036854775807){K:zV->Hp->Prop}
 (hk:∀v' C',aM elem k v' (rs++r2) C'->K v' (A++(C'++B))):App P elem k bytes zero (A++(C++B)) v (.slice xa r2.length xc) K:=by
 obtain⟨z,hz1,Ug⟩:=hz;have hnone:∀u∈(rows r2).toList,u.oneCell'=true:=by
  intro u hu;simp only[rows,List.mem_flatten]at hu;obtain⟨r,h2,h3⟩:=hu;exact h1 r h2 u h3
 rcases h with⟨rfl,rfl,rfl⟩|⟨b,au,rfl,rfl,aD⟩
 ·refine⟨none,0,0,xa,r2.length,xc,#[],rows r2,rfl,rfl,rfl,hx,bC hr,by simp,hnone,λh=>?_,λ_=>⟨by simpa using hb,by simpa using cJ,λfE hn b hbf=>?_⟩⟩
  ·have:r2=[]:=xb5 zO;subst this;exact hk _ [] (.inl ⟨rfl,rfl,rfl⟩)
  rw[show(#[]:Array zV)++rows r2++Builtin.zeroCells zero.cells (fE-(0+r2.length))=rows ([]++r2++List.replicate (fE-r2.length) z)by rw[hz1,mw z Ug];simp only[xa1,xdq,xa6];rw[cE]];refine⟨_,aF.VI [(b,_)] A B,hk _ [(b,_)] (.inr ⟨b,List.replicate (fE-r2.length) z,?_,rfl,?_⟩)⟩
  ·simp;omega
  intro x hx;rcases xaq.1 hx with hx|hx
  ·exact hr x hx
  rw[xbQ hx,Ug]
 have hsz:=bC aD;have oq:∀x∈rs,x.length=k:=λx hx=>aD x (by simp[hx]);have hold:rows rs=(rows (rs++au)).extract 0 (0+rs.length*k):=by
  rw[<-cE];apply xc1;have:=bC oq;have h2:(rows rs).toList.length=rs.length*k:=by rw[xb6];exact this
  rw[Array.toList_extract,Array.toList_append,List.extract_eq_take_drop,List.drop_zero,xa1,xdi,<-h2,xdx]
 refine⟨some ⟨b,0,none⟩,rs.length,rs.length+au.length,xa,r2.length,xc,rows rs,rows r2,rfl,rfl,.inr ⟨rfl,_,elem,(0,0),by simp,?_,hold⟩,hx,bC hr,bC oq,hnone,λhfit=>?_,λhgrow=>⟨hb,by omega,λfE hn b' hbf=>?_⟩⟩
 ·rw[hsz];simp only[xaf,xa1];exact xba _ zO
 ·obtain⟨j1,j2,rfl,hj⟩:∃j1 j2,au=j1++j2/\j1.length=r2.length:=⟨au.take r2.length,au.drop r2.length,(xbo _ _).symm,by rw[xbA];omega⟩;have abt:∀x∈j1,x.length=k:=λx hx=>aD x (by simp[hx]);refine⟨_,elem,_,rfl,?_,((cu.head _).append B).aO A,hk _ [(b,_)] (.inr ⟨b,j2,?_,?_,?_⟩)⟩
  ·rw[hsz,xaf,xaf,hj,xeF,xeF];show 0+rs.length*k+r2.length*k<=_;omega
  ·simp;omega
  ·have e:(⟨b,0,none⟩:Addr).off+rs.length*k=rs.length*k:=by simp
   have l1:=cZ rs oq;have l2:=cZ j1 abt;have l3:=cZ r2 hr;have e2:over (rows (rs++(j1++j2))) (rs.length*k) (rows r2).toList=rows (rs++r2++j2):=by
    unfold rows;rw[xbt,xbt,xdG,kV _ _ _ (by rw[xaf,xaf,l1,l2,l3,hj];omega)];congr 1;rw[xbt,xbt,<-l1,xdx,l3,<-hj,<-l2,xdl,<-xai];simp[xdl]
   rw[e,e2]
  intro x hx;simp only[xai,xaq]at hx;rcases hx with hx|hx|hx
  ·exact oq x hx
  ·exact hr x hx
  exact aD x (by simp[hx])
 refine⟨A++([(b',_)]++B),?_,hk _ [(b',_)] (.inr ⟨b',List.replicate (fE-(rs.length+r2.length)) z,?_,rfl,?_⟩)⟩
 ·rw[hz1,mw z Ug,cE,cE];exact λg w h=>(aF.Z2 [[_],A,[_],B] [[_],A,[_],B] ((xa0 (l₁:=[_,A]) (l₂:=[_])).append_right [B]|>.trans (.cons _ (.swap _ _ _))) g w h).tail
 ·simp;omega
 intro x hx;rcases xaq.1 hx with hx|hx
 ·rcases xaq.1 hx with hx|hx
  ·exact oq x hx
  exact hr x hx
 rw[xbQ hx,Ug]
def aR(T:TypeId)(kd:IntKind)(v:zV)(l:List Int)(C:Hp):Prop:=aM T 1 v (l.map λn=>[Value.int kd n]) C
theorem aR.nil{T:TypeId}{kd:IntKind}:aR T kd (.slice none 0 0) [] []:=aM.nil _ _
theorem aR.bE{T:TypeId}{kd:IntKind}{v:zV}{l:List Int}{C:Hp}(h:aR T kd v l C){K:zV->Prop}(hk:K (.int .i64 l.length)):aE v K:=aM.bE h (by simpa using hk)
theorem aR.ints{T:TypeId}{kd:IntKind}{v:zV}{l:List Int}{C:Hp}(h:aR T kd v l C):er kd C v l:=Sl.fZ h zD
theorem aR.app{T:TypeId}{kd:IntKind}{v:zV}{l:List Int}{C A B:Hp}{bytes:Nat}(h:aR T kd v l C){xb xc:Nat}{x:Int}{xT:TypeId}{fz:Nat×Nat}(hx:(xb,Obj.cells (aA kd [x]) xT fz)∈A++(C++B))
 (hb:(l.length+1)*bytes<=140737488355328)(hm:l.length+1<=9223372036854775807){K:zV->Hp->Prop}(hk:∀v' C',aR T kd v' (l++[x]) C'->K v' (A++(C'++B))):App P T 1 bytes (.int kd 0) (A++(C++B)) v (.slice (some ⟨xb,0,none⟩) 1 xc) K:=
 aM.E5 (r:=[.int kd x]) h hx rfl (by simp[Value.oneCell']) ⟨[.int kd 0],rfl,rfl⟩ (by simpa using hb) (by simpa using hm) λv' C' ho=>hk v' C' (by unfold aR;simpa using ho)
theorem aR.apps{T:TypeId}{kd:IntKind}{v x:zV}{l l2:List Int}{C A B:Hp}{bytes:Nat}(h:aR T kd v l C)(hx:er kd (A++(C++B)) x l2)
 (hb:(l.length+l2.length)*bytes<=140737488355328)(hm:l.length+l2.length<=9223372036854775807){K:zV->Hp->Prop}(hk:∀v' C',aR T kd v' (l++l2) C'->K v' (A++(C'++B))):App P T 1 bytes (.int kd 0) (A++(C++B)) v x K:=by
 obtain⟨a,cap,rfl,hc⟩:=Sl.cells hx;exact aM.apps h hc zI (by simp[Value.oneCell']) ⟨[.int kd 0],rfl,rfl⟩ (by simpa using hb) (by simpa using hm) λv' C' ho=>hk v' C' (by unfold aR;rw[xaB];exact ho)
theorem aj.aat{t e:Nat}{kd:IntKind}{x y z:Int}{K:zV->Hp->Prop}(h1:P.underlying t=some (.slice e))(h2:cA P e=some 1)(h3:dV P e=some (.int kd 0))
 (h:∀b,K (.slice (some ⟨b,0,Option.none⟩) 3 3) ((b,.cells (aA kd [x,y,z]) e zZ)::H)):aj P t 3 [(0,.int kd x),(1,.int kd y),(2,.int kd z)] H K:=by
 refine⟨aA kd [x,y,z],e,1,_,h1,h2,h3,by decide,?_,λb _=>h b⟩;have e1:Array.range (3*1)=#[0,1,2]:=rfl;simp[Instr.fill,Value.cells,aA,e1]
end
end Go.Sx
namespace Go.Sx
open Go
section
variable {P:Program}
theorem CB{e:TypeId}{i:TypeInfo}(hi:P.info? e=some i)(hs:i.size=1):P.cellsOf e=1:=by simp[Program.cellsOf,hi,hs]
theorem pQ{e:TypeId}{q:IntKind}(hu:P.underlying e=some (.int q)){l:List Int}{j:Nat}{x:Int}(h:l[j]? =some x)(w:World):(part e (aA q l) j).run P w=.ok (.int q x) w:=by
 simp[part,isAgg,run_underlying hu,aA,h]
theorem qk{e:TypeId}{q:IntKind}(hu:P.underlying e=some (.int q))(hc:P.cellsOf e=1)(d:Nat)(l l':List Int)(w:World):∀is:zL,(∀i∈is,i<l.length/\i<l'.length)->
  (Op.eqItems (d+1) e (P.cellsOf e) (aA q l) (aA q l') is).run P w=.ok (is.all λi=>l[i]? ==l'[i]?) w
 | [],_=>by simp[Op.eqItems]
 |i::is,h=>by
  obtain⟨h1,h2⟩:=h i zI;have g1:l[i]? =some l[i]:=xab h1;have g2:l'[i]? =some l'[i]:=xab h2;have p1:=pQ (P:=P) hu g1 w;have p2:=pQ (P:=P) hu g2 w;have p3:(Op.equalIn (d+1) e (.int q l[i]) (.int q l'[i])).run P w=.ok (l[i]==l'[i]) w:=by
   simp only[Op.equalIn,Sem.run_bind,run_underlying hu,Result.andThen_ok,xa7,Sem.run_pure]
  have ih:=qk hu hc d l l' w is λj hj=>h j (by simp[hj]);simp only[Op.eqItems,hc,xcc,Sem.run_bind,p1,p2,p3,Result.andThen_ok]at ih⊢;rw[List.all_cons,g1,g2];cases hb:(l[i]==l'[i])
  ·simp[hb]
  simp[hb,ih]
theorem Dc.array{t e:TypeId}{q:IntKind}{n:Nat}(ht:P.underlying t=some (.array n e))(hu:P.underlying e=some (.int q))(hz:cA P e=some 1)(l l':List Int)(h1:l.length=n)(h2:l'.length=n):
  Dc P t (.agg (aA q l)) (.agg (aA q l')) (decide (l=l')):=by
 obtain⟨i,hi,hs⟩:=aU hz;have hc:=CB hi hs;intro w;show(Op.equalIn (9998+1+1) t _ _).run P w=_;rw[run_equalIn_array w (9998+1) _ _ ht hi,qk hu hc 9998 l l' w _ (λj hj=>by have:=xaO.1 hj;omega)];congr 1;rw[xcQ];simp only[xcp,xaO,xaP,xc0];constructor
 ·intro h;apply xbq;intro j;by_cases hj:j<n
  ·exact h j hj
  rw[xaJ zO,xaJ zO]
 rintro rfl j _;rfl
theorem mj.array{t e:TypeId}{q:IntKind}{n:Nat}(ht:P.underlying t=some (.array n e))(hu:P.underlying e=some (.int q))(hz:cA P e=some 1)(l:List Int)(h1:l.length=n):mj P t (.agg (aA q l)):=by
 obtain⟨i,hi,hs⟩:=aU hz;intro b w;have gen:∀d,(Instr.checkKey b (d+1+1) t (.agg (aA q l))).run P w=.ok () w:=by
  intro d;have p2:∀x:Int,(Instr.checkKey b (d+1) e (.int q x)).run P w=.ok () w:=λx=>by
   simp only[Instr.checkKey,Sem.run_bind,run_underlying hu,Result.andThen_ok,Sem.run_pure]
  unfold Instr.checkKey;simp only[Sem.run_bind,run_underlying ht,Result.andThen_ok];simp only[Std.Legacy.Range.forIn_eq_forIn_range',Std.Legacy.Range.size,xdi,Nat.add_one_sub_one,Nat.div_one];have key:∀is:zL,(∀j∈is,j<l.length)->(forIn is PUnit.unit λj (_:PUnit)=>(do
     Instr.checkKey b (d+1) e (<-part e (aA q l) (j*(<-sizeOf e)))
     pure (ForInStep.yield PUnit.unit):Sem (ForInStep PUnit))).run P w=.ok PUnit.unit w:=by
   intro is;induction is with
   |nil=>intro _;simp
   |cons j is ih=>
    intro h;have p1:=pQ (P:=P) hu (xab (h j zI)) w;simp only[xey,Sem.run_bind,run_sizeOf hi,Result.andThen_ok,hs,xcc,p1,p2,Sem.run_pure];exact ih λk hk=>h k (by simp[hk])
  have:=key (List.range' 0 n) (λj hj=>by have:=xep.1 hj;omega);rw[this];rfl
 exact gen 9998
theorem Build.two{t e:TypeId}{q:IntKind}{x y:Int}{K:zV->Prop}(ht:P.underlying t=some (.array 2 e))(hz:cA P e=some 1)(h0:dV P t=some (.agg (aA q [0,0])))(h:K (.agg (aA q [x,y]))):
  Build P t [(0,.int q x),(1,.int q y)] K:=by
 refine⟨_,λw=>?_,h⟩;obtain⟨i,hi,hs⟩:=aU hz;obtain⟨i0,K7,Ss⟩:=cB h0;simp only[Instr.build,Sem.run_bind,dB K7 Ss,Result.andThen_ok,run_underlying ht,run_sizeOf hi,hs];simp[Instr.fill,Value.cells,aA]
end
end Go.Sx
namespace Go.Sx
open Go
section
variable {P:Program} {g:Gh} {H:Hp}
def vP(P:Program)(t:TypeId)(x y:zV):Prop:=
 (∃q a b,P.underlying t=some (.int q)/\x=.int q a/\y=.int q b)\/(∃a b,P.underlying t=some .bool/\x=.bool a/\y=.bool b)
theorem vP.eq{t:TypeId}{x y:zV}(h:vP P t x y)(d:Nat)(w:World):∃b,(Op.equalIn (d+1) t x y).run P w=.ok b w/\(b=true↔x=y):=by
 rcases h with⟨q,a,b,hu,rfl,rfl⟩|⟨a,b,hu,rfl,rfl⟩
 ·exact⟨a==b,by simp[Op.equalIn,run_underlying hu],by simp⟩
 exact⟨a==b,by simp[Op.equalIn,run_underlying hu],by simp⟩
theorem oZ{t:TypeId}{xs:Array zV}{o:Nat}{x:zV}(hu:(∃q,P.underlying t=some (.int q))\/P.underlying t=some .bool)(h:xs[o]? =some x)(w:World):(part t xs o).run P w=.ok x w:=by
 rcases hu with⟨q,hu⟩|hu<;>simp[part,isAgg,run_underlying hu,h]
theorem ow(d:Nat)(xs ys:Array zV)(w:World):∀fs:List Field,(∀f∈fs,f.name≠ "_" /\∃x y,xs[f.offset]? =some x/\ys[f.offset]? =some y/\vP P f.type x y)->
  ∃b,(Op.eqFields (d+1) xs ys fs).run P w=.ok b w/\(b=true↔∀f∈fs,xs[f.offset]? =ys[f.offset]?)
 | [],_=>⟨true,by simp[Op.eqFields],by simp⟩
 |f::fs,h=>by
  obtain⟨hn,x,y,hx,hy,hp⟩:=h f zI;obtain⟨b',ih,hb'⟩:=ow d xs ys w fs λg hg=>h g (by simp[hg]);have hu:(∃q,P.underlying f.type=some (.int q))\/P.underlying f.type=some .bool:=by
   rcases hp with⟨q,_,_,hu,_⟩|⟨_,_,hu,_⟩
   ·exact .inl ⟨q,hu⟩
   exact .inr hu
  obtain⟨b,hr,hb⟩:=hp.eq d w;have p1:=oZ hu hx w;have p2:=oZ hu hy w;cases b with
  |false=>
   refine⟨false,by simp[Op.eqFields,hn,p1,p2,hr],?_⟩;simp only[xaD,xag,forall_eq_or_imp,false_iff,hx,hy,xas];exact λhh=>absurd (hb.2 hh.1) zD
  |true=>
   refine⟨b',by simp[Op.eqFields,hn,p1,p2,hr,ih],?_⟩;rw[hb'];simp only[xag,forall_eq_or_imp,hx,hy,xas,hb.1 rfl,xdt]
theorem Dc.flat{t:TypeId}{fs:Array Field}(ht:P.underlying t=some (.struct fs))(hp:P.stoodInHeld t=false){xs ys:Array zV}{p:Prop}[Decidable p]
 (h:∀f∈fs.toList,f.name≠ "_" /\∃x y,xs[f.offset]? =some x/\ys[f.offset]? =some y/\vP P f.type x y)(he:(∀f∈fs.toList,xs[f.offset]? =ys[f.offset]?)↔p):Dc P t (.agg xs) (.agg ys) (decide p):=by
 have e:P.fieldsOf t=fs:=by simp[Program.fieldsOf,ht]
 intro w;show(Op.equalIn (9998+1+1) t _ _).run P w=_;rw[run_equalIn_struct w (9998+1) t xs ys (by rw[e];exact ht) hp,e];obtain⟨b,hr,hb⟩:=ow (P:=P) 9998 xs ys w fs.toList h;rw[hr];congr 1;rw[xcQ,hb,he,xaP]
theorem mj.flat{t:TypeId}{fs:Array Field}(ht:P.underlying t=some (.struct fs)){xs:Array zV}
 (h:∀f∈fs.toList,f.name≠ "_" /\∃x,xs[f.offset]? =some x/\vP P f.type x x):mj P t (.agg xs):=by
 intro b w;have gen:∀d,(Instr.checkKey b (d+1+1) t (.agg xs)).run P w=.ok () w:=by
  intro d;unfold Instr.checkKey;simp only[Sem.run_bind,run_underlying ht,Result.andThen_ok];rw[<-Array.forIn_toList];clear ht;generalize fs.toList=l at h;induction l with
  |nil=>simp
  |cons f l ih=>
   obtain⟨hn,x,hx,hp⟩:=h f zI;have hu:(∃q,P.underlying f.type=some (.int q))\/P.underlying f.type=some .bool:=by
    rcases hp with⟨q,_,_,hu,_⟩|⟨_,_,hu,_⟩
    ·exact .inl ⟨q,hu⟩
    exact .inr hu
   have p1:=oZ hu hx w;have p2:(Instr.checkKey b (d+1) f.type x).run P w=.ok () w:=by
    rcases hp with⟨q,a,_,hu,rfl,_⟩|⟨a,_,hu,rfl,_⟩
    ·simp only[Instr.checkKey,Sem.run_bind,run_underlying hu,Result.andThen_ok,Sem.run_pure]
    simp only[Instr.checkKey,Sem.run_bind,run_underlying hu,Result.andThen_ok,Sem.run_pure]
   have:=ih λg hg=>h g (by simp[hg]);simp only[xey,Sem.run_bind];simp[hn,p1,p2];simpa using this
 exact gen 9998
theorem oe(n:Nat){xs:Array zV}(h:∀x∈xs.toList,(∃q a,x=.int q a)\/∃a,x=.bool a):Instr.sameBits (n+1+1) (.agg xs) (.agg xs)=true:=by
 simp only[Instr.sameBits,xeu,xct,xcp];intro x hx;obtain⟨a,b⟩:=x;have h1:=xd9 hx;have e:a=b:=by
  obtain⟨i,hi,he⟩:=xbB.1 hx;simp at he;exact he.1.symm.trans he.2
 subst e;rcases h a h1.1 with⟨q,z,rfl⟩|⟨z,rfl⟩<;>simp[Instr.sameBits]
end
section
variable {κ:Type} [DecidableEq κ] {β:Type} {ke:κ->zV} {vr:zV->β->Prop} {es:Array MapEntry} {ck b:Nat} {m:List (κ×β)} {P:Program} {H:Hp}
def wM(m:List (κ×β))(k:κ):List (κ×β):=m.filter λy=>¬y.1=k
theorem xG{k k':κ}:bO (wM m k) k'=if k'=k then none else bO m k':=by
 unfold bO wM;rw[List.find?_filter];by_cases e:k'=k
 ·rw[xae e];rw[xc4.2]
  ·rfl
  intro x _;simp;intro h1 h2;exact h1 (h2.trans e)
 rw[xac e];congr 1;congr 1
 funext y
 by_cases e2:y.1=k'
 ·have:¬y.1=k:=λe3=>e (e2.symm.trans e3);simp[e2,this,e]
 simp[e2]
theorem cM{k k':κ}{x:β}:bO (cY m k x) k'=if k'=k then some x else bO m k':=by
 unfold bO cY;by_cases hk:k∈m.map Prod.fst
 ·rw[xae hk];by_cases e:k'=k
  ·subst e;rw[xae rfl];induction m with
   |nil=>simp at hk
   |cons y m ih=>
    rw[xaM,xbG];by_cases ey:y.1=k'
    ·simp[ey]
    rw[xac ey];simp only[ey,xdI];rw[ih];rw[xaM]at hk;rcases xag.1 hk with h|h
    ·exact absurd h.symm ey
    simpa using h
  rw[xac e];have:∀l:List (κ×β),(List.find? (λy=>decide (y.1=k')) (l.map λy=>if y.1=k then(k,x)else y)).map Prod.snd=(List.find? (λy=>decide (y.1=k')) l).map Prod.snd:=by
   intro l;induction l with
   |nil=>rfl
   |cons y l ih=>
    rw[xaM,xbG,xbG];by_cases ey:y.1=k
    ·have h1:decide (k=k')=false:=by simpa using λh=>e h.symm
     have h2:decide (y.1=k')=false:=by rw[ey];exact h1
     simp only[xae ey,h1,h2];exact ih
    simp only[xac ey];cases decide (y.1=k')with
    |true=>rfl
    |false=>exact ih
  exact this m
 rw[xac hk];rw[List.find?_append];by_cases e:k'=k
 ·subst e;have:List.find? (λy=>decide (y.1=k')) m=none:=by
   rw[xc4];intro y hy;simp;intro h;exact hk (xam.2 ⟨y,hy,h⟩)
  simp[this]
 have:¬k=k':=λh=>e h.symm;rw[xac e];cases List.find? (λy=>decide (y.1=k')) m<;>simp[this]
theorem Ea(nd:(m.map Prod.fst).Nodup){i:Nat}{k:κ}{y:β}(hi:m[i]? =some (k,y)):wM m k=m.eraseIdx i:=by
 unfold wM;induction m generalizing i with
 |nil=>simp at hi
 |cons z m ih=>
  rw[xaM,xaW]at nd;cases i with
  |zero=>
   simp at hi;subst hi;rw[List.eraseIdx_cons_zero,List.filter_cons_of_neg zI];rw[xdo];intro w hw;simp only[decide_not,xbU,xbk];intro e;exact nd.1 (xam.2 ⟨w,hw,e⟩)
  |succ i=>
   simp at hi;have hz:¬z.1=k:=λe=>nd.1 (xam.2 ⟨_,xay hi,e.symm⟩);rw[List.eraseIdx_cons_succ,List.filter_cons_of_pos (by simpa using hz),ih nd.2 hi]
omit [DecidableEq κ] in
theorem aT.less(h:aT ke vr es ck m)(i:Nat):aT ke vr (es.eraseIdxIfInBounds i) ck (m.eraseIdx i):=by
 have hl:(es.eraseIdxIfInBounds i).toList=es.toList.eraseIdx i:=by
  unfold Array.eraseIdxIfInBounds;split
  ·simp
  rename_i hh;rw[List.eraseIdx_of_length_le (by simpa using hh)]
 refine⟨?_,λj e x he hx=>?_,?_,?_,λe he=>?_⟩
 ·have:=xca List.length hl;rw[xb6,List.length_eraseIdx]at this;rw[this,List.length_eraseIdx,xb6,h.len]
 ·rw[<-xbm,hl,List.getElem?_eraseIdx]at he;rw[List.getElem?_eraseIdx]at hx;split at he
  ·rename_i hh;rw[xae hh]at hx;exact h.key j e x (by simpa using he) hx
  rename_i hh;rw[xac hh]at hx;exact h.key (j+1) e x (by simpa using he) hx
 ·rw[<-gk];exact h.nd.sublist (xd4 _ _)
 ·rw[hl,<-gk];exact h.born.sublist (xd4 _ _)
 rw[hl]at he;exact h.lt e (List.mem_of_mem_eraseIdx he)
theorem aT.af3{P:Program}{kt:TypeId}{k:κ}{K:Hp->Prop}(hk:∀a b,Dc P kt (ke a) (ke b) (decide (a=b)))(hc:∀a,mj P kt (ke a))(h:aT ke vr es ck m)(hm:(b,Obj.map es ck)∈H)
 (h1:∀es',aT ke vr es' ck (wM m k)->∃H',cu b (.map es ck) (.map es' ck) H H'/\K H'):qI P kt H (.map (some b)) (ke k) K:=by
 refine⟨hc k,.inr ?_⟩;rcases h.Cb hk k with⟨i,y,e,g1,g2,g3,g4⟩|⟨g1,g2⟩
 ·refine⟨b,es,ck,_,rfl,g4,?_⟩;have:=h.less i;rw[<-Ea h.nd g2]at this;exact h1 _ this
 refine⟨b,es,ck,_,rfl,g2,hm,?_⟩;have e:wM m k=m:=by
  unfold wM;rw[xdo];intro w hw;simp only[decide_not,xbU,xbk];intro e;exact g1 (xam.2 ⟨w,hw,e⟩)
 obtain⟨H',hu,hK⟩:=h1 es (by rw[e];exact h);have:∀{H H':Hp},cu b (.map es ck) (.map es ck) H H'->H'=H:=by
  intro H H' hu;generalize ho:Obj.map es ck=o at hu;induction hu with
  |head R=>rfl
  |tail _ ih=>rw[ih]
 rw[this hu]at hK;exact hK
end
section
variable {P:Program} {H:Hp}
theorem aM.oh{T:TypeId}{k:Nat}{v:zV}{rs:List (List zV)}{C:Hp}(hs:aM T k v rs C){i:Nat}{kd:IntKind}{r:List zV}(hr:rs[i]? =some r)(hC:∀y∈C,y∈H){K:zV->Prop}(hk:K (.agg r.toArray)):
  ah k v (.int kd (i:Int)) λp=>ax k H p K:=by
 have hi:=(xah.1 hr).1;obtain⟨b',au,rfl,rfl,aD⟩:=hs.pos zO;exact ah.nat hi (ax.row (hC _ (List.Mem.head _)) aD (by rw[xaQ hi];exact hr) hk)
theorem aM.Xw{T:TypeId}{k:Nat}{v x:zV}{rs:List (List zV)}{C:Hp}(hs:aM T k v rs C){i j:Nat}{kd:IntKind}{r:List zV}(hr:rs[i]? =some r)(hj:r[j]? =some x)(hC:∀y∈C,y∈H){K:zV->Prop}(hk:K x):
  ah k v (.int kd (i:Int)) λp=>af j p λq=>Ld H q K:=by
 have hi:=(xah.1 hr).1;obtain⟨b',au,rfl,rfl,aD⟩:=hs.pos zO;exact ah.nat hi (af.mk (Ld.row (hC _ (List.Mem.head _)) aD (by rw[xaQ hi];exact hr) hj hk))
theorem aM.VS{T:TypeId}{v x:zV}{rs:List (List zV)}{C:Hp}(hs:aM T 1 v rs C){i:Nat}{kd:IntKind}(hr:rs[i]? =some [x])(hC:∀y∈C,y∈H){K:zV->Prop}(hk:K x):
  ah 1 v (.int kd (i:Int)) λp=>Ld H p K:=by
 have hi:=(xah.1 hr).1;obtain⟨b',au,rfl,rfl,aD⟩:=hs.pos zO;exact ah.nat hi (Ld.Z4 (l:=rs++au) (hC _ (List.Mem.head _)) aD (by rw[xaQ hi];exact hr) hk)
theorem aM.Xv{T:TypeId}{k n:Nat}{v:zV}{rs:List (List zV)}{C:Hp}(hs:aM T k v rs C){i:Nat}{kd:IntKind}{r:List zV}(hr:rs[i]? =some r)(hn:0<n/\n<=k)(hC:∀y∈C,y∈H){K:zV->Prop}(hk:K (.agg (r.take n).toArray)):
  ah k v (.int kd (i:Int)) λp=>af 0 p λq=>ax n H q K:=by
 have hi:=(xah.1 hr).1;obtain⟨b',au,rfl,rfl,aD⟩:=hs.pos zO;have Nu:r.length=k:=aD r (xad _ (xay hr));refine ah.nat hi (af.mk ?_);have AG:At H (.pointer (some ⟨b',0+i*k+0,none⟩)) (r.take n):=⟨b',_,_,_,_,rfl,hC _ (List.Mem.head _),λj x hj=>by
  have Sz:j<n:=by have:=(xah.1 hj).1;simp at this;omega
  rw[List.getElem?_take,xae Sz]at hj;rw[xbY,xa1,gS aD zO,xaQ hi,hr];exact hj⟩
 exact ax.at AG zP hn.1 (λ_ h=>h) hk
theorem Ke{k:Nat}{l:List (List zV)}(h:∀r∈l,r.length=k){i:Nat}{r xs:List zV}(hi:l[i]? =some r)(hx:xs.length<=k):over (rows l) (i*k) xs=rows (l.set i (xs++r.drop xs.length)):=by
 have hlt:=(xah.1 hi).1;have hr:=h r (xay hi);have key:∀(xs:List zV) (j:Nat) (l:List (List zV)) (r:List zV),(∀r∈l,r.length=k)->l[i]? =some r->j+xs.length<=k->over (rows l) (i*k+j) xs=rows (l.set i (r.take j++xs++r.drop (j+xs.length))):=by
  intro xs;induction xs with
  |nil=>
   intro j l r h hi _;have hlt:=(xah.1 hi).1;simp only[over,xaH,xa3,xbY,xbo];congr 1;apply xbq;intro m;rw[xbH];by_cases e:i=m
   ·subst e;rw[xae rfl,hi,xae hlt]
   rw[xac e]
  |cons x xs ih=>
   intro j l r h hi hj;have hr:=h r (xay hi);have hlt:=(xah.1 hi).1;simp only[xak]at hj;rw[over,og h hi zO,xdB];rw[ih (j+1) (l.set i (r.set j x)) (r.set j x) (λy hy=>by
    rcases xcm hy with hy|rfl
    ·exact h y hy
    simpa using hr) (by simp[hlt]) zO]
   rw[List.set_set];congr 2;have e1:(r.set j x).take (j+1)=r.take j++[x]:=by
    rw[xde,xae zO,xev];simp[List.take_take,show min (j+1) j=j by omega,show j+1-min j r.length=1 by omega]
   have e2:(r.set j x).drop (j+1+xs.length)=r.drop (j+(x::xs).length):=by
    rw[List.drop_set,xae zO];congr 1;simp;omega
   rw[e1,e2];simp
 have:=key xs 0 l r h hi zO;simpa using this
theorem aM.Tz{T:TypeId}{k n:Nat}{v:zV}{rs:List (List zV)}{C A B:Hp}(hs:aM T k v rs C){i:Nat}{kd:IntKind}{r xs:List zV}(hr:rs[i]? =some r)(hx:xs.length=n/\n<=k)(h1:∀x∈xs,x.oneCell'=true){K:Hp->Prop}
 (hk:∀C',aM T k v (rs.set i (xs++r.drop n)) C'->K (A++(C'++B))):ah k v (.int kd (i:Int)) λp=>af 0 p λq=>St n (A++(C++B)) q (.agg xs.toArray) K:=by
 have hi:=(xah.1 hr).1;obtain⟨b',au,rfl,rfl,aD⟩:=hs.pos zO;refine ah.nat hi (af.mk ?_);have hg:(rs++au)[i]? =some r:=by rw[xaQ hi];exact hr
 have e:(rs++au).set i (xs++r.drop xs.length)=rs.set i (xs++r.drop n)++au:=by rw[xdd _ _ hi,hx.1]
 refine St.mk (c':=rows (rs.set i (xs++r.drop n)++au)) (H':=A++([(b',.cells (rows (rs.set i (xs++r.drop n)++au)) T zZ)]++B)) (((cu.head _).append B).aO A) (by simpa[Value.cells]using hx.1) ?_ (by simpa[Value.cells]using h1) ?_ ?_
 ·rw[bC aD,xa1,xbY,xaf];have:=xba k (xcV hi);rw[xbz]at this;have h2:rs.length*k<=(rs.length+au.length)*k:=xba k zO;omega
 ·simp only[Value.cells,xa1,xbY];rw[Ke aD hg zO,e]
 have Nu:r.length=k:=aD r (xad _ (xay hr));refine hk _ (aM.mk' (au:=au) (λy hy=>?_) zI zI);rcases xaq.1 hy with hy|hy
 ·rcases xcm hy with hy|rfl
  ·exact aD y (xad _ hy)
  simp;omega
 exact aD y (xaa _ hy)
theorem aM.OW{T:TypeId}{k:Nat}{v:zV}{rs:List (List zV)}{C A B:Hp}(hs:aM T k v rs C){i:Nat}{kd:IntKind}{xs:List zV}(hi:i<rs.length)(hx:xs.length=k)(h1:∀x∈xs,x.oneCell'=true){K:Hp->Prop}
 (hk:∀C',aM T k v (rs.set i xs) C'->K (A++(C'++B))):ah k v (.int kd (i:Int)) λp=>St k (A++(C++B)) p (.agg xs.toArray) K:=by
 obtain⟨b',au,rfl,rfl,aD⟩:=hs.pos zO;refine ah.nat hi (St.row (l:=rs++au) (((cu.head _).append B).aO A) aD zP hx h1 ?_);have e:(rs++au).set i xs=rs.set i xs++au:=by rw[xdd _ _ hi]
 rw[e];refine hk [(b',_)] (aM.mk' (au:=au) (λy hy=>?_) zI zI);rcases xaq.1 hy with hy|hy
 ·rcases xcm hy with hy|rfl
  ·exact aD y (xad _ hy)
  exact hx
 exact aD y (xaa _ hy)
theorem aR.ld{T:TypeId}{kd wO:IntKind}{v:zV}{l:List Int}{C:Hp}(hs:aR T kd v l C){i:Nat}{x:Int}(hx:l[i]? =some x)(hC:∀y∈C,y∈H){K:zV->Prop}(hk:K (.int kd x)):ah 1 v (.int wO (i:Int)) λp=>Ld H p K:=
 aM.VS hs (x:=.int kd x) (by simp[hx]) hC hk
theorem aR.put{T:TypeId}{kd wO:IntKind}{v:zV}{l:List Int}{C A B:Hp}(hs:aR T kd v l C){i:Nat}{x:Int}(hi:i<l.length){K:Hp->Prop}
 (hk:∀C',aR T kd v (l.set i x) C'->K (A++(C'++B))):ah 1 v (.int wO (i:Int)) λp=>St 1 (A++(C++B)) p (.int kd x) K:=by
 have hi':i<(l.map λn=>[Value.int kd n]).length:=by simpa using hi
 obtain⟨b',au,rfl,rfl,aD⟩:=aM.pos hs zO;refine ah.nat hi' ?_;refine St.cell (l:=l.map (λn=>[Value.int kd n])++au) (i:=i) (k:=1) (j:=0) (r:=[.int kd l[i]]) (((cu.head _).append B).aO A) aD (by rw[xaQ hi'];simp[hi]) zO rfl ?_;have e:(l.map (λn=>[Value.int kd n])++au).set i ([Value.int kd l[i]].set 0 (.int kd x))=(l.set i x).map (λn=>[Value.int kd n])++au:=by
  rw[xdd _ _ hi',xc5];rfl
 rw[e];refine hk [(b',_)] (aM.mk' (au:=au) (λr hr'=>?_) zI zI);rcases xaq.1 hr' with hr'|hr'
 ·obtain⟨y,_,rfl⟩:=xam.1 hr';rfl
 exact aD r (xaa _ hr')
theorem aF.nil{H:Hp}:aF H []:=λ_ _ h=>h.kT
theorem aM.cut{T:TypeId}{k i:Nat}{v:zV}{rs:List (List zV)}{C:Hp}(hs:aM T k v rs C)(hi:i<=rs.length){kd:IntKind}{K:zV->Prop}(hk:∀v',aM T k v' (rs.take i) C->K v'):
  cP k v none (some (.int kd (i:Int))) K:=by
 by_cases hp:0<rs.length
 ·obtain⟨b',au,rfl,rfl,aD⟩:=hs.pos hp;refine cP.upto zO (hk _ ?_);have e:rs++au=rs.take i++(rs.drop i++au):=by rw[<-xai,xbo]
  rw[e]at aD⊢;exact aM.mk' aD zP zP
 obtain rfl:rs=[]:=xb5 zO;obtain rfl:i=0:=by simpa using hi
 obtain⟨a,c,rfl⟩:=hs.len;exact cP.upto (xaA _) (hk _ (by simpa using hs))
theorem aR.cut{T:TypeId}{kd wO:IntKind}{i:Nat}{v:zV}{l:List Int}{C:Hp}(hs:aR T kd v l C)(hi:i<=l.length){K:zV->Prop}(hk:∀v',aR T kd v' (l.take i) C->K v'):
  cP 1 v none (some (.int wO (i:Int))) K:=
 aM.cut hs (by simpa using hi) λv' h=>hk v' (by unfold aR;rw[List.map_take];exact h)
end
end Go.Sx
namespace Go.Sx
open Go
section
variable {P:Program} {H C:Hp} {c:Hp->Hp}
theorem br.split(h:br C H c):∃A B,∀X,c X=A++(X++B):=by
 induction h with
 |here=>exact⟨[],[],λX=>by simp⟩
 | @left A=>exact⟨[],A,λX=>rfl⟩
 | @cons x H c h ih=>
  obtain⟨A,B,e⟩:=ih;exact⟨x::A,B,λX=>by show x::c X=_;rw[e];rfl⟩
 | @app A' H c h ih=>
  obtain⟨A,B,e⟩:=ih;exact⟨A'++A,B,λX=>by show A'++c X=_;rw[e,xai]⟩
theorem br.sub(h:br C H c):∀x∈C,x∈H:=λx hx=>by
 obtain⟨A,B,e⟩:=h.split;rw[h.spec.1,e];exact xaa _ (xad _ hx)
theorem br.bT{b:Nat}{o o':Obj}{C':Hp}(h:br C H c)(u:cu b o o' C C'):cu b o o' H (c C'):=by
 obtain⟨A,B,e⟩:=h.split;rw[h.spec.1,e,e];exact(u.append B).aO A
theorem aM.mi{elem k bytes:Nat}{zero:zV}{v:zV}{rs:List (List zV)}(h:aM elem k v rs C)(hh:br C H c){xb:Nat}{r:List zV}{xT:TypeId}{fz:Nat×Nat}{xc:Nat}
 (hx:(xb,Obj.cells r.toArray xT fz)∈H)(hr:r.length=k)(h1:∀u∈r,u.oneCell'=true)(hz:∃z:List zV,zero.cells=z.toArray/\z.length=k)
 (hb:(rs.length+1)*bytes<=140737488355328)(cJ:rs.length+1<=9223372036854775807){K:zV->Hp->Prop}
 (hk:∀v' C',aM elem k v' (rs++[r]) C'->K v' (c C')):App P elem k bytes zero H v (.slice (some ⟨xb,0,none⟩) 1 xc) K:=by
 obtain⟨A,B,e⟩:=hh.split;have e2:=hh.spec.1;rw[e]at e2;subst e2;exact h.E5 hx hr h1 hz hb cJ λv' C' ho=>by have:=hk v' C' ho;rwa [e]at this
theorem aR.mi{T:TypeId}{kd:IntKind}{v:zV}{l:List Int}{bytes:Nat}(h:aR T kd v l C)(hh:br C H c){xb xc:Nat}{x:Int}{xT:TypeId}{fz:Nat×Nat}(hx:(xb,Obj.cells (aA kd [x]) xT fz)∈H)
 (hb:(l.length+1)*bytes<=140737488355328)(hm:l.length+1<=9223372036854775807){K:zV->Hp->Prop}(hk:∀v' C',aR T kd v' (l++[x]) C'->K v' (c C')):App P T 1 bytes (.int kd 0) H v (.slice (some ⟨xb,0,none⟩) 1 xc) K:=by
 obtain⟨A,B,e⟩:=hh.split;have e2:=hh.spec.1;rw[e]at e2;subst e2;exact h.app hx hb hm λv' C' ho=>by have:=hk v' C' ho;rwa [e]at this
theorem aR.WN{T:TypeId}{kd:IntKind}{v x:zV}{l l2:List Int}{bytes:Nat}(h:aR T kd v l C)(hh:br C H c)(hx:er kd H x l2)
 (hb:(l.length+l2.length)*bytes<=140737488355328)(hm:l.length+l2.length<=9223372036854775807){K:zV->Hp->Prop}(hk:∀v' C',aR T kd v' (l++l2) C'->K v' (c C')):App P T 1 bytes (.int kd 0) H v x K:=by
 obtain⟨A,B,e⟩:=hh.split;have e2:=hh.spec.1;rw[e]at e2;subst e2;exact h.apps hx hb hm λv' C' ho=>by have:=hk v' C' ho;rwa [e]at this
theorem aR.mF{T:TypeId}{kd wO:IntKind}{v:zV}{l:List Int}(hs:aR T kd v l C)(hh:br C H c){i:Nat}{x:Int}(hi:i<l.length){K:Hp->Prop}
 (hk:∀C',aR T kd v (l.set i x) C'->K (c C')):ah 1 v (.int wO (i:Int)) λp=>St 1 H p (.int kd x) K:=by
 obtain⟨A,B,e⟩:=hh.split;have e2:=hh.spec.1;rw[e]at e2;subst e2;exact hs.put hi λC' ho=>by have:=hk C' ho;rwa [e]at this
theorem aR.one{T:TypeId}{kd:IntKind}{v:zV}{l:List Int}(h:aR T kd v l C):v.oneCell'=true:=by obtain⟨a,c,e⟩:=aM.len h;rw[e];rfl
theorem gj(l:zL)(i x:Nat):(iw l).set i (x:Int)=iw (l.set i x):=by unfold iw;rw[xc5]
theorem cj(a b:zL):iw (a++b)=iw a++iw b:=by unfold iw;rw[xaB]
theorem bX{l:zL}{i:Nat}(h:i<l.length):(iw l)[i]? =some ((l.getD i 0:Nat):Int):=by
 rw[cr (xab h)];simp[List.getD,xab h]
end
end Go.Sx
namespace Go.Sx
open Go
theorem j8{p:Nat->Prop}(h:∃k,p k):∃k,p k/\∀j,p j->k<=j:=by
 obtain⟨k,hk⟩:=h;induction k using Nat.strongRecOn with
 |_ k ih=>
  by_cases e:∃j,j<k/\p j
  ·obtain⟨j,hj,hp⟩:=e;exact ih j hj hp
  exact⟨k,hk,λj hp=>xcY λhlt=>e ⟨j,hlt,hp⟩⟩
open Classical in
noncomputable def mM(J:Nat->List zV->Hp->Prop)(vs:List zV)(H:Hp):Nat:=if h:∃k,J k vs H then Classical.choose (j8 h)else 0
theorem KD{J:Nat->List zV->Hp->Prop}{vs:List zV}{H:Hp}{k:Nat}(h:J k vs H):mM J vs H<=k:=by
 unfold mM;rw[xeg ⟨k,h⟩];exact(xcF (j8 ⟨k,h⟩)).2 k h
theorem Bx{J:Nat->List zV->Hp->Prop}{vs:List zV}{H:Hp}(h:∃k,J k vs H):J (mM J vs H) vs H:=by
 unfold mM;rw[xeg h];exact(xcF (j8 h)).1
def nq(J:Nat->List zV->Hp->Prop):List zV->Hp->Prop:=λvs H=>∃k,J k vs H
theorem nq.open{J:Nat->List zV->Hp->Prop}{vs:List zV}{H:Hp}(h:nq J vs H):∃k,J k vs H/\k=mM J vs H:=⟨_,Bx h,rfl⟩
theorem nq.mk{J:Nat->List zV->Hp->Prop}{vs:List zV}{H:Hp}(k:Nat)(h:J k vs H):JE (nq J) vs H:=JE.mk ⟨k,h⟩
theorem nq.back{J:Nat->List zV->Hp->Prop}{vs vs':List zV}{H H' H0:Hp}{k:Nat}(e:aF H H')(hk:k=mM J vs H0)(k':Nat)(h:J k' vs' H')(hlt:k'<k):az (nq J) (mM J) vs' H vs H0:=
 az.of e ⟨k',h⟩ (xaE (KD h) zO)
theorem aal{vs:List zV}{H:Hp}{Q:(List zV->Hp->Prop)->(List zV->Hp->Nat)->Prop}(J:Nat->List zV->Hp->Prop)(k:Nat)(h:J k vs H)(hq:Q (nq J) (mM J)):
  ∃(I:List zV->Hp->Prop) (m:List zV->Hp->Nat),JE I vs H/\Q I m:=⟨_,_,nq.mk k h,hq⟩
section
variable {P:Program} {H:Hp}
theorem aj.VY{t e:Nat}{kd:IntKind}{x y:Int}{K:zV->Hp->Prop}(h1:P.underlying t=some (.slice e))(h2:cA P e=some 1)(h3:dV P e=some (.int kd 0))
 (h:∀b,K (.slice (some ⟨b,0,Option.none⟩) 2 2) ((b,.cells (aA kd [x,y]) e zZ)::H)):aj P t 2 [(0,.int kd x),(1,.int kd y)] H K:=by
 refine⟨aA kd [x,y],e,1,_,h1,h2,h3,by decide,?_,λb _=>h b⟩;have e1:Array.range (2*1)=#[0,1]:=rfl;simp[Instr.fill,Value.cells,aA,e1]
theorem Kf(kd:IntKind)(l:List Int):rows (l.map λn=>[Value.int kd n])=aA kd l:=by
 unfold rows aA;congr 1;induction l with
 |nil=>rfl
 |cons x l ih=>rw[xaM,xcy,ih];rfl
theorem aR.made{T:TypeId}{kd:IntKind}{b:Nat}(l:List Int):aR T kd (.slice (some ⟨b,0,none⟩) l.length l.length) l [(b,.cells (aA kd l) T zZ)]:=by
 have:=aM.mk' (T:=T) (k:=1) (b:=b) (n:=l.length) (c:=l.length) (rs:=l.map λn=>[Value.int kd n]) (au:=[]) (λr hr=>by
  rw[xaH]at hr;obtain⟨x,_,rfl⟩:=xam.1 hr;rfl) zI zI
 rw[xaH,Kf]at this;exact this
end
end Go.Sx
namespace Go.Sx
open Go
section
variable {P:Program} {g:Gh}
structure wy where
 f:FuncId
 l:List zV
def lJ(P:Program)(g:Gh)(f:FuncId)(args:Array zV)(H:Hp)(R:Ending->Hp->Prop):Prop:=
 ∀w,Own g H w->∀u,CallsD P f args u w λe u' w'=>u'=u/\∃H',Own g H' w'/\R e H'
def kJ(P:Program)(g:Gh)(f:FuncId)(args:Array zV)(H:Hp)(K:Hp->Prop):Prop:=lJ P g f args H λe H'=>(∃v,e=.returned v)/\K H'
def N5(P:Program)(g:Gh)(K:Hp->Prop):List wy->Hp->Prop
 | [],H=>K H
 |x::r,H=>kJ P g x.f x.l.toArray H (N5 P g K r)
def Vz(P:Program)(o:Oper)(ρ:Operand->zV)(k:wy->Prop):Prop:=
 match o.op with
 | .defer c=>match c.callee with
  | .value x=>match ρ x with
   | .func (.func f) first cap=>cond (bR P f) (k ⟨f,first.toList++(c.args.toList.map ρ++cap.toList)⟩) False
   |_=>False
  |_=>False
 |_=>False
def IN:Code->Option (Array Oper×Oper)
 | .region _ ops false=>match ops.toList.getLast? with
  |some o=>match o.op with
   | .defer _=>some (ops,o)
   |_=>none
  |none=>none
 |_=>none
def Rb(P:Program)(g:Gh)(fn:Func)(R:Ending->Hp->Prop)(dl:List wy):Exit->Fr->Hp->Prop
 | .normal,fr,H=>N5 P g (λH'=>oT P fr H' fn.results.toList λvs=>R (.returned (tQ vs)) H') dl H
 | .ret,fr,H=>N5 P g (λH'=>oT P fr H' fn.results.toList λvs=>R (.returned (tQ vs)) H') dl H
 |_,_,_=>False
def EM(P:Program)(g:Gh)(n:Nat)(E:List wy->Exit->Fr->Hp->Prop):Code->Hn->List wy->Fr->Hp->Prop
 | .seq x y,hn,dl,fr,H=>
  match IN x with
  |some (ops,o)=>cond (o.dst.isNone&&o.guard.isNone)
    (dI P g n ops false (ops.toList.length+1) false none [] ops.toList.dropLast fr H (λ_ fr' H'=>Vz P o (ev fr') λd=>EM P g n E y hn.b (d::dl) fr' H') (λ_ _=>False)) False
  |none=>match hn.m with
   |0=>den P g n x hn.a (AP (EM P g n E y hn.b dl) (E dl)) fr H
   |_=>cond (TT x hn.I)
    (acz hn.L.length (λvs H'=>∀gs,EM P g n E y hn.b dl (mix hn.L vs hn.I fr gs) H') λJ=>den P g n x hn.a (AP (λfr' H'=>JE J (DA fr' hn.L) H') (E dl)) fr H) False
 |c,hn,dl,fr,H=>den P g n c hn (E dl) fr H
def Rj(P:Program)(g:Gh)(fn:Func)(hn:Hn)(args:List zV)(H:Hp)(R:Ending->Hp->Prop):Prop:=
 match fn.body with
 |some c=>cond (Nat.ble args.length fn.ntmps) (EM P g fn.ntmps (Rb P g fn R) c hn [] (fH args 0) H) False
 |none=>False
def NoP:List PanicEntry->Hp->Prop:=λ_ _=>∀_:Fr,False
def DOK(P:Program)(x:wy)(d:Deferred):Prop:=∃cap args,d={target:=.fn (.func x.f) cap,args:=args}/\args++cap=x.l.toArray/\bR P x.f=true
inductive rT(P:Program):List wy->List Deferred->Prop
 |nil:rT P [] []
 |cons {x d l ds} (h:DOK P x d) (hr:rT P l ds):rT P (x::l) (d::ds)
theorem tN{fn:Func}{tmps:Array zV}{K:Hp->Prop}{R:Ending->World->Prop}(hK:∀H w,Own g H w->K H->∃v,(results fn tmps).run P w=.ok v w/\R (.returned v) w):
  ∀{dl:List wy} {ds:List Deferred},rT P dl ds->∀H w,Own g H w->N5 P g K dl H->Leaves P fn tmps R ds .returning w
 |_,_,.nil,H,w,hw,h=>hK H w hw h
 |_,_,.cons ⟨cap,args,hd,ha,hc⟩ hr,H,w,hw,h=>by
  subst hd;refine leaves_cons zI ?_ ((h w hw .returning).mono ?_)
  ·show(callFunc _ (args++cap)).run P w=_;rw[ha];exact dS hc _ w
  rintro e u' w' ⟨rfl,H',ho,⟨v,rfl⟩,hk⟩;exact tN hK hr H' w' ho hk
theorem pg{fn:Func}{R:Ending->Hp->Prop}{n:Nat}{dl:List wy}{ds:List Deferred}(hd:rT P dl ds){e:Exit}{fr:Fr}{H:Hp}{a:Act}{w:World}(ha:bS ds n a fr)(hw:Own g H w)(h:Rb P g fn R dl e fr H):
  bodyPostD P fn (λe w'=>∃H',Own g H' w'/\R e H') e a w:=by
 have key:∀{H},Own g H w->N5 P g (λH'=>oT P fr H' fn.results.toList λvs=>R (.returned (tQ vs)) H') dl H->Leaves P fn a.tmps (λe w'=>∃H',Own g H' w'/\R e H') a.defers .returning w:=λhw h=>by
  rw[ha.defers];refine tN (λH w hw h=>?_) hd _ _ hw h;obtain⟨vs,hr,hk⟩:=fO ha hw h;exact⟨_,hr,H,hw,hk⟩
 cases e with
 |normal=>exact key hw h
 |ret=>exact key hw h
 |panic ch=>exact h.elim
 |exit id=>exact h.elim
 |goto l=>exact h.elim
 |outgrown=>exact h.elim
theorem uN{c:Code}{ops:Array Oper}{o:Oper}(h:IN c=some (ops,o)):∃id d,c=.region id ops false/\ops.toList=ops.toList.dropLast++[o]/\o.op=.defer d:=by
 unfold IN at h;split at h
 ·rename_i id ops';split at h
  ·rename_i o' ho;split at h
   ·rename_i d hd;simp only[xas,xdC]at h;obtain⟨rfl,rfl⟩:=h;refine⟨id,d,rfl,?_,hd⟩;obtain⟨hne,e⟩:=List.getLast?_eq_some_iff.1 ho;rw[e];simp
   cases h
  cases h
 cases h
theorem Dd{o:Oper}{fr:Fr}{k:wy->Prop}(h:Vz P o (ev fr) k):∃x d,k x/\DOK P x d/\∀w,(execOp (ev fr) o).run P w=.ok (.defer d) w:=by
 unfold Vz at h;split at h<;>try exact h.elim
 rename_i c hop;split at h<;>try exact h.elim
 rename_i x hc;split at h<;>try exact h.elim
 rename_i f first cap hx
 cases jS:bR P f<;>simp only[jS,xao,xaj]at h;refine⟨_,{target:=.fn (.func f) cap,args:=first++c.args.map (ev fr)},h,⟨cap,_,rfl,?_,jS⟩,λw=>?_⟩
 ·apply xc1;simp
 simp only[execOp,hop,resolve,hc,hx,Deferred.ofValue,Sem.run_bind,Sem.run_pure,Result.andThen_ok]
theorem EL{n:Nat}{fn:Func}{R:Ending->Hp->Prop}:∀(c:Code) (hn:Hn) (dl:List wy) (fr:Fr) (H:Hp),EM P g n (Rb P g fn R) c hn dl fr H->∀(ds:List Deferred),rT P dl ds->∀(a:Act) (w:World),bS ds n a fr->Own g H w->
  c.wp P (bodyPostD P fn λe w'=>∃H',Own g H' w'/\R e H') a w:=by
 have plain:∀(c:Code) (hn:Hn) (dl:List wy) (fr:Fr) (H:Hp),den P g n c hn (Rb P g fn R dl) fr H->∀(ds:List Deferred),rT P dl ds->∀(a:Act) (w:World),bS ds n a fr->Own g H w->
   c.wp P (bodyPostD P fn λe w'=>∃H',Own g H' w'/\R e H') a w:=λc hn dl fr H h ds hd a w ha hw=>
  wp_mono (iQ c hn _ fr H h a w ha hw) λe a' w' ⟨fr',H',cW,hw',_,hq⟩=>pg hd cW hw' hq
 intro c;induction c with
 |seq x y _ ih=>
  intro hn dl fr H h ds hd a w ha hw;unfold EM at h;split at h
  ·rename_i ops o hx;obtain⟨id,d,rfl,hl,hop⟩:=uN hx;cases hc:(o.dst.isNone&&o.guard.isNone)<;>simp only[hc,xao,xaj]at h;simp only[xaC,Option.isNone_iff_eq_none]at hc;refine wp_seq (wp_region_list ?_);rw[hl];refine cf _ _ _ _ _ fr H _ _ h trivial (gN.nil fr) a w ha hw [o] _ ?_ ?_
   ·intro a' w' om fr' H' cW hw' _ _ hk;refine wpList_plain hc.2 λK hK=>?_;obtain⟨x,dd,hx,hok,hrun⟩:=Dd hk;show o.upon P a' K _ ((execOp a'.eval o).run P w');rw[cW.eval,hrun];refine hK _ _ ?_;refine ih _ _ fr' H' hx (dd::ds) (.cons hok hd) _ _ ?_ hw';rw[hc.1];exact⟨xca _ cW.defers,cW.size,cW.get⟩
   intro ch a' w' fr' H' _ _ hk;exact hk.elim
  split at h
  ·refine wp_seq (wp_mono (iQ x _ _ fr H h a w ha hw) ?_);rintro e a' w' ⟨fr',H',cW,hw',ho,hq⟩;cases e with
   |normal=>exact ih _ _ fr' H' hq ds hd a' w' cW hw'
   |ret=>exact pg (e:=.ret) hd cW hw' hq
   |exit id=>exact hq.elim
   |goto l=>exact hq.elim
   |panic ch=>exact hq.elim
   |outgrown=>exact hq.elim
  ·cases hno:TT x hn.I<;>simp only[hno,xao,xaj]at h;have h':=h (λvs H'=>∀gs,EM P g n (Rb P g fn R) y hn.b dl (mix hn.L vs hn.I fr gs) H') (wz.intro (λvs H' hh=>hh) _);refine wp_seq (wp_mono (iQ x _ _ fr H h' a w ha hw) ?_);rintro e a' w' ⟨fr',H',cW,hw',ho,hq⟩;cases e with
   |normal=>
    obtain⟨Hj,hent,hq⟩:=hq;have hq':=hq fr';rw[uH λs hs=>ho rfl s (uE hno s hs)]at hq';exact ih _ _ fr' Hj hq' ds hd a' w' cW (hent _ _ hw')
   |ret=>exact pg (e:=.ret) hd cW hw' hq
   |exit id=>exact hq.elim
   |goto l=>exact hq.elim
   |panic ch=>exact hq.elim
   |outgrown=>exact hq.elim
 |_=>intro hn dl fr H h;exact plain _ hn dl fr H h
theorem zv{args:List zV}{m:Nat}(hle:args.length<=m):bS [] m {tmps:=args.toArray++Array.replicate (m-args.toArray.size) undef,defers:=[]} (fH args 0):=by
 refine⟨rfl,by simp;omega,λs=>?_⟩;rw[k9,xav,xd3];simp only[xdb,xc8,xaT,xdi];by_cases hs:s<args.length
 ·simp[hs,List.getD]
 rw[xac hs,xdh];have:args.getD s undef=undef:=by simp[List.getD,xaJ (xcY hs)]
 rw[this];split<;>rfl
theorem Cj{f:FuncId}{fn:Func}{hn:Hn}{args:List zV}{H:Hp}{R:Ending->Hp->Prop}(hf:P.funcs[f]? =some fn)(h:Rj P g fn hn args H R):aY P g f args.toArray H R:=by
 intro w hw;unfold Rj at h;split at h<;>try exact h.elim
 rename_i c hc;cases hl:Nat.ble args.length fn.ntmps<;>simp only[hl,xao,xaj]at h;exact calls_of_wp_defers hf hc (EL c hn [] _ H h [] .nil _ w (zv (xco hl)) hw)
theorem Cg{f:FuncId}{fn:Func}{hn:Hn}{args:List zV}{H:Hp}{R:Ending->Hp->Prop}(hf:P.funcs[f]? =some fn)(h:EO P g fn hn args H R):lJ P g f args.toArray H R:=by
 intro w hw u;unfold EO at h;split at h<;>try exact h.elim
 rename_i c hc;cases hl:Nat.ble args.length fn.ntmps<;>simp only[hl,xao,xaj]at h;refine callsD_of_wp hf hc (wp_mono (iQ c hn _ _ H h _ w (zv (xco hl)) hw) ?_);rintro e a' w' ⟨fr',H',cW,hw',_,hq⟩;cases e with
 |normal=>obtain⟨vs,hr,hk⟩:=fO cW hw' hq;exact⟨cW.defers,_,hr,H',hw',hk⟩
 |ret=>obtain⟨vs,hr,hk⟩:=fO cW hw' hq;exact⟨cW.defers,_,hr,H',hw',hk⟩
 |panic ch=>exact⟨cW.defers,H',hw',hq⟩
 |exit id=>exact hq.elim
 |goto l=>exact hq.elim
 |outgrown=>exact hq.elim
abbrev Jt:=List zV->Hp->Prop
abbrev Mt:=List zV->Hp->Nat
abbrev Rt:=Ending->Hp->Prop
abbrev Hn.n(a b:Hn):Hn:=.h 0 [] [] a b
theorem eV{f:FuncId}{fn:Func}{hn:Hn}{args:List zV}{H:Hp}{R:Rt}{L:Prop}(hf:P.funcs[f]? =some fn)(h:L)(e:EO P g fn hn args H R=L):aY P g f args.toArray H R:=EN hf (e.mpr h)
theorem DO{f:FuncId}{fn:Func}{hn:Hn}{args:List zV}{H:Hp}{R:Rt}{L:Prop}(hf:P.funcs[f]? =some fn)(h:L)(e:Rj P g fn hn args H R=L):aY P g f args.toArray H R:=Cj hf (e.mpr h)
theorem DP{f:FuncId}{fn:Func}{hn:Hn}{args:List zV}{H:Hp}{R:Rt}{L:Prop}(hf:P.funcs[f]? =some fn)(h:L)(e:EO P g fn hn args H R=L):lJ P g f args.toArray H R:=Cg hf (e.mpr h)
end
end Go.Sx
namespace Go.Sx
open Go
section
variable {P:Program} {g:Gh} {H:Hp}
def FcD(P:Program)(f:FuncId)(args:Array zV)(C:Hp)(Q:zV->Hp->Prop):Prop:=∀g,lJ P g f args C (aQ Q)
theorem kJ.fn{f:FuncId}{args:Array zV}{C H:Hp}{c:Hp->Hp}{Q:zV->Hp->Prop}{K:Hp->Prop}(hh:br C H c)(hc:FcD P f args C Q)(hk:∀v C',Q v C'->K (c C')):kJ P g f args H K:=by
 intro w hw u;obtain⟨rfl,F,hp⟩:=hh.spec;have hw':Own g (C++F) w:=aF.perm (hp C) g w hw;refine((hc (g.add F)) w (Own.eF.1 hw') u).mono ?_;rintro e u' w' ⟨rfl,H',ho,v,C',rfl,he,hq⟩;have h1:Own g (H'++F) w':=Own.eF.2 ho;have h2:Own g (c H') w':=aF.perm (hp H').symm g w' h1;exact⟨rfl,c C',hh.dL he g w' h2,⟨v,rfl⟩,hk _ _ hq⟩
end
end Go.Sx
namespace Go.Sx
open Go
section
variable {P:Program} {g:Gh}
def jF(P:Program)(f:FuncId)(g:Gh)(args:Array zV)(u:FrameMode)(H:Hp)(K:Hp->Prop):Prop:=
 ∀w,Own g H w->CallsD P f args u w λe u' w'=>(∃v,e=.returned v)/\settle u'=.returning/\∃H',Own g H' w'/\K H'
def JM(P:Program)(g:Gh)(K:Hp->Prop):List wy->Hp->Prop
 | [],H=>K H
 |x::r,H=>jF P x.f g x.l.toArray .returning H (JM P g K r)
def Lx(P:Program)(g:Gh)(fn:Func)(R:Ending->Hp->Prop)(dl:List wy):Exit->Fr->Hp->Prop
 | .normal,fr,H=>JM P g (λH'=>oT P fr H' fn.results.toList λvs=>R (.returned (tQ vs)) H') dl H
 | .ret,fr,H=>JM P g (λH'=>oT P fr H' fn.results.toList λvs=>R (.returned (tQ vs)) H') dl H
 | .panic ch,fr,H=>match dl with
  | []=>R (.panicked ch) H
  |x::r=>jF P x.f g x.l.toArray (.panicking ch) H (JM P g (λH'=>oT P fr H' fn.results.toList λvs=>R (.returned (tQ vs)) H') r)
 |_,_,_=>False
def Ag(P:Program)(g:Gh)(n:Nat)(E:List wy->Exit->Fr->Hp->Prop):Code->(List wy->Fr->Hp->Prop)->List wy->Fr->Hp->Prop
 | .skip,k,dl,fr,H=>k dl fr H
 | .ret,_,dl,fr,H=>E dl .ret fr H
 | .seq x y,k,dl,fr,H=>Ag P g n E x (Ag P g n E y k) dl fr H
 | .cond c x y,k,dl,fr,H=>Br (ev fr c) (Ag P g n E x k dl fr H) (Ag P g n E y k dl fr H)
 | .region id ops draw,k,dl,fr,H=>
  cond draw False
  (match IN (.region id ops false)with
  |some (_,o)=>cond (o.dst.isNone&&o.guard.isNone)
    (dI P g n ops false (ops.toList.length+1) false none [] ops.toList.dropLast fr H (λ_ fr' H'=>Vz P o (ev fr') λd=>k (d::dl) fr' H') (λ_ _=>False)) False
  |none=>dI P g n ops false (ops.toList.length+1) false none [] ops.toList fr H (λ_ fr' H'=>k dl fr' H') (λch H'=>∀gs,E dl (.panic ch) (rC ops.toList gs fr) H'))
 |_,_,_,_,_=>False
def Ri(P:Program)(g:Gh)(fn:Func)(args:List zV)(H:Hp)(R:Ending->Hp->Prop):Prop:=
 match fn.body with
 |some c=>cond (Nat.ble args.length fn.ntmps) (Ag P g fn.ntmps (Lx P g fn R) c (λdl fr H'=>Lx P g fn R dl .normal fr H') [] (fH args 0) H) False
 |none=>False
def lH(l:List Oper)(a a':Act):Prop:=∀s,aX l s=false->a'.tmps.getD s undef=a.tmps.getD s undef
theorem lH.put{L:List Oper}{a0 a:Act}(h:lH L a0 a){o:Oper}(ho:∀s,aX L s=false->aX [({(default:Oper)with dst:=o.dst})] s=false)(v:zV):lH L a0 (a.put o.dst v):=by
 intro s hs;rw[<-h s hs];have:=ho s hs;cases hd:o.dst with
 |none=>rfl
 |some d=>
  rw[hd]at this;simp only[aX,Bool.or_false]at this;have hne:d≠s:=λe=>by subst e;simp at this
  simp only[Act.put,xav,xbw hne]
theorem LetsOut.and{Q Q':Exit->Act->World->Prop}(hq:∀a w,Q .outgrown a w->Q' .outgrown a w)(h:LetsOut Q):LetsOut Q':=by
 obtain⟨a,w,h⟩:=h;exact⟨a,w,hq _ _ h⟩
theorem dO{ops:Array Oper}{Q:Exit->Act->World->Prop}{L:List Oper}{a0:Act}:∀(rest:List Oper),(∀s,aX L s=false->aX rest s=false)->∀(a:Act) (w:World),lH L a0 a->wpList P ops Q rest a w->
  wpList P ops (λe a' w'=>Q e a' w'/\(p9 e=true->lH L a0 a')) rest a w
 | [],_,a,w,hs,h=>⟨h,λe=>by cases e⟩
 |o::r,hL,a,w,hs,h=>by
  have ho:∀s,aX L s=false->aX [({(default:Oper)with dst:=o.dst})] s=false:=λs h=>by
   have:=hL s h;rw[cI,xaL]at this;exact this.1
  have hr:∀s,aX L s=false->aX r s=false:=λs h=>by
   have:=hL s h;rw[cI,xaL]at this;exact this.2
  have hout:LetsOut Q->LetsOut (λe a' w'=>Q e a' w'/\(p9 e=true->lH L a0 a')):=LetsOut.and λa w h=>⟨h,λe=>by cases e⟩;unfold wpList at h⊢;split at h<;>rename_i hw
  ·rw[xae hw];rcases h with h|⟨h1,h2⟩
   ·left;unfold Oper.wp at h⊢;generalize (execOp a.eval o).run P w=res at h⊢;cases res with
    |ok n w'=>
     cases n<;>simp only[Oper.upon]at h⊢ <;>first|exact h|skip
     case value v=>exact dO r hr _ _ (hs.put ho v) h
     case skip=>exact dO r hr _ _ (hs.put ho undef) h
     case defer d=>exact dO r hr _ _ (lH.put (a:={a with defers:=d::a.defers}) hs ho undef) h
     case enter f args=>
      refine h.mono λe w'' he=>?_;cases e with
      |returned v=>exact dO r hr _ _ (hs.put ho v) he
      |panicked ch=>exact⟨he,λ_=>hs⟩
      |outgrown=>exact hout he
     case row row args=>exact h.mono λv w'' he=>dO r hr _ _ (hs.put ho v) he
    |halt x w'=>
     cases x<;>simp only[Oper.upon]at h⊢ <;>first|exact⟨h,λ_=>hs⟩|exact h
   exact .inr ⟨h1,hout h2⟩
  rw[xac hw];exact dO r hr _ _ (hs.put ho undef) h
def acp(P:Program)(g:Gh)(n:Nat)(fn:Func)(R:Ending->Hp->Prop)(k:List wy->Fr->Hp->Prop):Exit->Act->World->Prop
 | .normal,a,w=>∃dl ds fr H,rT P dl ds/\bS ds n a fr/\Own g H w/\k dl fr H
 |e,a,w=>∃dl ds fr H,rT P dl ds/\bS ds n a fr/\Own g H w/\Lx P g fn R dl e fr H
theorem UW{l:List Oper}{fr fr':Fr}(h:∀s,aX l s=false->fr' s=fr s):rC l fr' fr=fr':=by
 funext s
 unfold rC;cases hb:aX l s
 ·exact(h s hb).symm
 rfl
theorem EK{n:Nat}{fn:Func}{R:Ending->Hp->Prop}:∀(c:Code) (k:List wy->Fr->Hp->Prop) (dl:List wy) (fr:Fr) (H:Hp),Ag P g n (Lx P g fn R) c k dl fr H->∀(ds:List Deferred),rT P dl ds->∀(a:Act) (w:World),bS ds n a fr->Own g H w->
  c.wp P (acp P g n fn R k) a w:=by
 intro c;induction c with
 |skip=>intro k dl fr H h ds hd a w ha hw;exact wp_skip ⟨dl,ds,fr,H,hd,ha,hw,h⟩
 |ret=>intro k dl fr H h ds hd a w ha hw;exact wp_ret ⟨dl,ds,fr,H,hd,ha,hw,h⟩
 |seq x y V0 VZ=>
  intro k dl fr H h ds hd a w ha hw;unfold Ag at h;refine wp_seq (wp_mono (V0 _ dl fr H h ds hd a w ha hw) ?_);rintro e a' w' hq;cases e with
  |normal=>
   obtain⟨dl',ds',fr',H',dG,cW,hw',hq⟩:=hq;exact VZ _ dl' fr' H' hq ds' dG a' w' cW hw'
  |exit id=>exact hq
  |goto l=>exact hq
  |ret=>exact hq
  |panic ch=>exact hq
  |outgrown=>exact hq
 |cond c x y V0 VZ=>
  intro k dl fr H h ds hd a w ha hw;unfold Ag at h;obtain⟨b,hb,ht,hf⟩:=h;exact wp_cond_split (t:=b) (by rw[ha.eval];exact hb) (λe=>V0 _ dl fr H (ht e) ds hd a w ha hw) (λe=>VZ _ dl fr H (hf e) ds hd a w ha hw)
 |region id ops draw=>
  intro k dl fr H h ds hd a w ha hw;unfold Ag at h;cases draw<;>simp only[xao,xaj]at h;split at h
  ·rename_i ops' o hx;obtain⟨id',d,e1,hl,hop⟩:=uN hx;simp only[Code.region.injEq]at e1;obtain⟨rfl,rfl,_⟩:=e1;cases hc:(o.dst.isNone&&o.guard.isNone)<;>simp only[hc,xao,xaj]at h;simp only[xaC,Option.isNone_iff_eq_none]at hc;refine wp_region_list ?_;rw[hl];refine cf _ _ _ _ _ fr H _ _ h trivial (gN.nil fr) a w ha hw [o] _ ?_ ?_
   ·intro a' w' om fr' H' cW hw' _ _ hk;refine wpList_plain hc.2 λK hK=>?_;obtain⟨x,dd,hx,hok,hrun⟩:=Dd hk;show o.upon P a' K _ ((execOp a'.eval o).run P w');rw[cW.eval,hrun];refine hK _ _ ?_;refine⟨x::dl,dd::ds,fr',H',.cons hok hd,?_,hw',hx⟩;rw[hc.1];exact⟨xca _ cW.defers,cW.size,cW.get⟩
   intro ch a' w' fr' H' _ _ hk;exact hk.elim
  have h1:=cf (rest:=[]) _ _ _ _ _ fr H _ _ h trivial (gN.nil fr) a w ha hw (λe a' w'=>match e with
   | .normal=>∃fr' H',bS ds n a' fr'/\Own g H' w'/\k dl fr' H'
   | .panic ch=>∃fr' H',bS ds n a' fr'/\Own g H' w'/\∀gs,Lx P g fn R dl (.panic ch) (rC ops.toList gs fr) H'
   |_=>False) (λa' w' om fr' H' cW hw' _ _ hk=>⟨fr',H',cW,hw',hk⟩) (λch a' w' fr' H' cW hw' hk=>⟨fr',H',cW,hw',hk⟩)
  rw[xaH]at h1;refine wp_mono (wp_region_list (dO (L:=ops.toList) (a0:=a) ops.toList (λs h=>h) a w (λs _=>rfl) h1)) ?_;rintro e a' w' ⟨hq,hs⟩;cases e with
  |normal=>
   obtain⟨fr',H',cW,hw',hk⟩:=hq;exact⟨dl,ds,fr',H',hd,cW,hw',hk⟩
  |panic ch=>
   obtain⟨fr',H',cW,hw',hk⟩:=hq;refine⟨dl,ds,fr',H',hd,cW,hw',?_⟩;have:=hk fr';rwa [UW λs h=>by rw[<-cW.get,<-ha.get];exact hs rfl s h]at this
  |exit id=>exact hq.elim
  |goto l=>exact hq.elim
  |ret=>exact hq.elim
  |outgrown=>exact hq.elim
 |_=>intro k dl fr H h;exact h.elim
theorem jF.cons{x:wy}{d:Deferred}{ds:List Deferred}{fn:Func}{tmps:Array zV}{u:FrameMode}{H:Hp}{w:World}{K:Hp->Prop}{R:Ending->World->Prop}(hu:u≠.run)(hd:DOK P x d)(hw:Own g H w)(h:jF P x.f g x.l.toArray u H K)
 (hk:∀H' w',Own g H' w'->K H'->Leaves P fn tmps R ds .returning w'):Leaves P fn tmps R (d::ds) u w:=by
 obtain⟨cap,args,rfl,ha,hc⟩:=hd;refine leaves_cons hu ?_ ((h w hw).mono ?_)
 ·show(callFunc _ (args++cap)).run P w=_;rw[ha];exact dS hc _ w
 rintro e u' w' ⟨⟨v,rfl⟩,sW,H',ho,hk'⟩;show Leaves _ _ _ _ _ (settle u') w';rw[sW];exact hk _ _ ho hk'
theorem rY{fn:Func}{tmps:Array zV}{K:Hp->Prop}{R:Ending->World->Prop}(hK:∀H w,Own g H w->K H->∃v,(results fn tmps).run P w=.ok v w/\R (.returned v) w):
  ∀{dl:List wy} {ds:List Deferred},rT P dl ds->∀H w,Own g H w->JM P g K dl H->Leaves P fn tmps R ds .returning w
 |_,_,.nil,H,w,hw,h=>hK H w hw h
 |_,_,.cons hx hr,H,w,hw,h=>jF.cons zI hx hw h λH' w' ho hk=>rY hK hr H' w' ho hk
theorem pe{fn:Func}{R:Ending->Hp->Prop}{n:Nat}{dl:List wy}{ds:List Deferred}(hd:rT P dl ds){e:Exit}{fr:Fr}{H:Hp}{a:Act}{w:World}(ha:bS ds n a fr)(hw:Own g H w)(h:Lx P g fn R dl e fr H):
  bodyPostD P fn (λe w'=>∃H',Own g H' w'/\R e H') e a w:=by
 have fin:∀{dl ds H w},rT P dl ds->Own g H w->JM P g (λH'=>oT P fr H' fn.results.toList λvs=>R (.returned (tQ vs)) H') dl H->Leaves P fn a.tmps (λe w'=>∃H',Own g H' w'/\R e H') ds .returning w:=λhd hw h=>by
  exact rY (λH w hw h=>by
   obtain⟨vs,hr,hk⟩:=fO ha hw h;exact⟨_,hr,H,hw,hk⟩) hd _ _ hw h
 cases e with
 |normal=>show Leaves _ _ _ _ a.defers _ _;rw[ha.defers];exact fin hd hw h
 |ret=>show Leaves _ _ _ _ a.defers _ _;rw[ha.defers];exact fin hd hw h
 |panic ch=>
  show Leaves _ _ _ _ a.defers _ _;rw[ha.defers];cases hd with
  |nil=>exact⟨H,hw,h⟩
  |cons hx hr=>exact jF.cons zI hx hw h λH' w' ho hk=>fin hr ho hk
 |exit id=>exact h.elim
 |goto l=>exact h.elim
 |outgrown=>exact h.elim
theorem Ch{f:FuncId}{fn:Func}{args:List zV}{H:Hp}{R:Ending->Hp->Prop}(hf:P.funcs[f]? =some fn)(h:Ri P g fn args H R):aY P g f args.toArray H R:=by
 intro w hw;unfold Ri at h;split at h<;>try exact h.elim
 rename_i c hc;cases hl:Nat.ble args.length fn.ntmps<;>simp only[hl,xao,xaj]at h;refine calls_of_wp_defers hf hc (wp_mono (EK c _ [] _ H h [] .nil _ w (zv (xco hl)) hw) ?_);intro e a' w' hq;cases e with
 |normal=>obtain⟨dl,ds,fr,H',hd,ha,ho,hk⟩:=hq;exact pe (e:=.normal) hd ha ho hk
 |ret=>obtain⟨dl,ds,fr,H',hd,ha,ho,hk⟩:=hq;exact pe (e:=.ret) hd ha ho hk
 |panic ch=>obtain⟨dl,ds,fr,H',hd,ha,ho,hk⟩:=hq;exact pe (e:=.panic ch) hd ha ho hk
 |exit id=>obtain⟨dl,ds,fr,H',hd,ha,ho,hk⟩:=hq;exact hk.elim
 |goto l=>obtain⟨dl,ds,fr,H',hd,ha,ho,hk⟩:=hq;exact hk.elim
 |outgrown=>obtain⟨dl,ds,fr,H',hd,ha,ho,hk⟩:=hq;exact hk.elim
theorem Oz{f:FuncId}{fn:Func}{args:List zV}{H:Hp}{R:Rt}{L:Prop}(hf:P.funcs[f]? =some fn)(h:L)(e:Ri P g fn args H R=L):aY P g f args.toArray H R:=Ch hf (e.mpr h)
theorem jF.rec{f:FuncId}{fn:Func}{id d0 d1:Nat}{o0 o1:Oper}{rest:Code}{hn:Hn}{args:List zV}{u u':FrameMode}{v:zV}{H:Hp}{K:Hp->Prop}(hf:P.funcs[f]? =some fn)(hb:fn.body=some (.seq (.region id #[o0,o1] false) rest))
 (h0:o0.op=.call ⟨.builtin .recover,#[],#[]⟩)(g0:o0.guard=none)(e0:o0.dst=some d0)(h1:o1.op=.assign (.tmp d0))(g1:o1.guard=none)(e1:o1.dst=some d1)(hr:fn.results=#[])
 (hl:Nat.ble args.length fn.ntmps=true)(b0:Nat.blt d0 fn.ntmps=true)(b1:Nat.blt d1 fn.ntmps=true)
 (hu:(u=.returning/\v=.nilIface/\u'=.returning)\/(u=.panicking [{v,recovered:=false}]/\u'=.panicking [{v,recovered:=true}]))
 (h:den P g fn.ntmps rest hn (λe _ H'=>match e with| .normal=>K H'| .ret=>K H'|_=>False) (bT (bT (fH args 0) (some d0) v) (some d1) v) H):jF P f g args.toArray u H K:=by
 intro w hw;have hs:settle u'=.returning:=by
  rcases hu with⟨_,_,rfl⟩|⟨_,rfl⟩<;>rfl
 refine callsD_of_wpS (R:=λe u' w'=>(∃v,e=.returned v)/\settle u'=.returning/\∃H',Own g H' w'/\K H') hf hb λc₀ cs hc=>?_;refine wpS_seq (wpS_region ?_);have zy:(match recoverD (c₀::cs)with|some (v',cs')=>(v',cs')|none=>(.nilIface,c₀::cs))=(v,{c₀ with mode:=u'}::cs):=by
  rcases hu with⟨h1,rfl,rfl⟩|⟨h1,rfl⟩
  ·rw[h1]at hc;unfold recoverD;simp only[hc];rw[<-hc]
  rw[h1]at hc;unfold recoverD;simp only[hc]
 have hA:=zv (args:=args) (m:=fn.ntmps) (xco hl);have Nq:∀t,Region.wanted o0 t=true:=λt=>by unfold Region.wanted;rw[g0]
 have ie:∀t,Region.wanted o1 t=true:=λt=>by unfold Region.wanted;rw[g1]
 have key:wpOpsS P #[o0,o1] (Exit.thenS (rest.wpS P (bodyPostS P fn c₀ cs λe u' w'=>(∃v,e=.returned v)/\settle u'=.returning/\∃H',Own g H' w'/\K H')) (bodyPostS P fn c₀ cs λe u' w'=>(∃v,e=.returned v)/\settle u'=.returning/\∃H',Own g H' w'/\K H')) [0,1]
   {tmps:=args.toArray++Array.replicate (fn.ntmps-args.toArray.size) undef,defers:=[]} (c₀::cs) w:=by
  generalize hA0:({tmps:=args.toArray++Array.replicate (fn.ntmps-args.toArray.size) undef,defers:=[]}:Act)=A0 at hA⊢;have a1:bS [] fn.ntmps (A0.put o0.dst v) (bT (fH args 0) (some d0) v):=by rw[e0];exact hA.put (d:=some d0) (by simpa[dF]using b0) v
  have a2:bS [] fn.ntmps ((A0.put o0.dst v).put o1.dst v) (bT (bT (fH args 0) (some d0) v) (some d1) v):=by rw[e1];exact a1.put (d:=some d1) (by simpa[dF]using b1) v
  have VJ:wpOpsS P #[o0,o1] (Exit.thenS (rest.wpS P (bodyPostS P fn c₀ cs λe u' w'=>(∃v,e=.returned v)/\settle u'=.returning/\∃H',Own g H' w'/\K H')) (bodyPostS P fn c₀ cs λe u' w'=>(∃v,e=.returned v)/\settle u'=.returning/\∃H',Own g H' w'/\K H')) [1] (A0.put o0.dst v) ({c₀ with mode:=u'}::cs) w:=by
   simp only[wpOpsS,xcb,xdS,xch,ie,xa7];have hx:execOp (A0.put o0.dst v).eval o1=pure (.value v):=by
    rw[a1.eval];simp only[execOp,h1,ev];simp[bT]
   rw[hx];simp only[Sem.run_pure,Oper.upon];refine wpS_of_wp (wp_mono (iQ rest hn _ _ H h _ w a2 hw) ?_);rintro e a' w' ⟨fr',H',cW,hw',_,hq⟩;cases e with
   |normal=>
    refine⟨cW.defers,u',rfl,.tuple #[],?_,⟨_,rfl⟩,hs,H',hw',hq⟩;simp[results,hr]
   |ret=>
    refine⟨cW.defers,u',rfl,.tuple #[],?_,⟨_,rfl⟩,hs,H',hw',hq⟩;simp[results,hr]
   |exit id=>exact hq.elim
   |goto l=>exact hq.elim
   |panic ch=>exact hq.elim
   |outgrown=>exact hq.elim
  unfold wpOpsS;simp only[xcb,xch,Nq,xa7];have hx:execOp A0.eval o0=pure .recover:=by
   simp[execOp,h0,resolve,invoke,builtin]
  rw[hx];simp only[Sem.run_pure];cases hq:recoverD (c₀::cs)with
  |none=>
   rw[hq]at zy;simp only[xdC]at zy;obtain⟨rfl,hcs⟩:=zy;simp only;rw[hcs];exact VJ
  |some p=>
   obtain⟨v',cs'⟩:=p;rw[hq]at zy;simp only[xdC]at zy;obtain⟨rfl,rfl⟩:=zy;exact VJ
 exact key
end
end Go.Sx
set_option maxRecDepth 100000
namespace Go.Proofs
open Go Go.Sx Tryz
variable {g:Gh} {a0 a1 a2 a3 a4 a5 a6 a7 a8 a9 sK sJ ZF ZE ZD ZC:zV} {H:Hp} {R:Rt}
abbrev pt(b:Nat):zV:=.pointer (some ⟨b,0,none⟩)
noncomputable abbrev zQ:=Tryz.prog
abbrev CF:=aa Tryz.prog
abbrev iv(n:Int):zV:=.int .i64 n
abbrev ui(n:Int):zV:=.int .u32 n
abbrev wi(n:Int):zV:=.int .u64 n
abbrev bi(n:Int):zV:=.int .u8 n
abbrev vT:zV:=.bool true
abbrev vF:zV:=.bool false
abbrev lE:=ae .num .eql
abbrev lN:=ae .num .neq
abbrev lL:=ae .num .lss
abbrev lG:=ae .num .gtr
abbrev lA:=ae .num .add
abbrev lS:=ae .num .sub
abbrev lD(n:Nat)(p:zV)(H:Hp)(k:zV->Prop):Prop:=af n p λv=>Ld H v k
abbrev lM(n:Nat)(p:zV)(H:Hp)(k:zV->Prop):Prop:=Nil p λq=>af n q λv=>Ld H v k
abbrev lI(e:Nat)(p i:zV)(H:Hp)(k:zV->Prop):Prop:=ah e p i λv=>Ld H v k
abbrev lX(v:zV)(k:zV->zV->Prop):Prop:=Ext 0 v λx=>Ext 1 v λy=>k x y
abbrev rt(R:Rt)(v:zV)(H:Hp):Prop:=R (.returned v) H
abbrev tP(a b:zV):zV:=.tuple #[a,b]
abbrev lW(H:Hp)(c:Array zV)(t:Nat)(k:Nat->Hp->Prop):Prop:=Fb H (.cells c t zZ) k
abbrev lO(a:zV)(i:Bool->Prop)(k:Bool->Prop):Prop:=cz a false i (λt=>vT=Value.bool t) λt=>∀_:Fr,k t
abbrev lU(a:zV)(i:Bool->Prop)(k:Bool->Prop):Prop:=cz a true i (λt=>vF=Value.bool t) λt=>∀_:Fr,k t
abbrev lV(H:Hp)(v:zV)(t:Bool):Prop:=H=H/\v=Value.bool t
abbrev lC(n:Nat)(p:zV)(k:zV->Prop):Prop:=Nil p λq=>af n q k
abbrev lQ(n:Nat)(H:Hp)(c:Array zV)(t:Nat)(v:zV)(k:Nat->Hp->Prop):Prop:=Fb H (.cells c t zZ) λb H=>St n H (pt b) v λH=>k b H
abbrev sc:=aY Tryz.prog
theorem sd{g:Gh}{f:FuncId}{fn:Func}(hn:Hn){args:List zV}{H:Hp}{R:Rt}{L:Prop}(hf:Tryz.prog.funcs[f]? =some fn)(h:L)(e:EO Tryz.prog g fn hn args H R=L:=by kernel_rfl):sc g f args.toArray H R:=eV hf h e
abbrev Y0:=Gh->Hp->Rt->Prop
abbrev Y1:=Gh->zV->Hp->Rt->Prop
abbrev Y2:=Gh->zV->zV->Hp->Rt->Prop
abbrev Y3:=Gh->zV->zV->zV->Hp->Rt->Prop
abbrev Y4:=Gh->zV->zV->zV->zV->Hp->Rt->Prop
abbrev Y5:=Gh->zV->zV->zV->zV->zV->Hp->Rt->Prop
abbrev CR(R:Rt)(g:Gh)(f:Nat)(a:Array zV)(H:Hp)(K:zV->Hp->Prop):Prop:=aa Tryz.prog g f a H K (cv R)
abbrev CN(g:Gh)(f:Nat)(a:Array zV)(H:Hp)(K:zV->Hp->Prop):Prop:=aa Tryz.prog g f a H K gu
abbrev lK(H:Hp)(v:zV)(t:Nat)(k:Nat->Hp->Prop):Prop:=Fb H (.cells (Value.cells v) t zZ) k
abbrev i0:zV:=iv 0
abbrev i1:zV:=iv 1
abbrev oG:=ae .num .geq
abbrev oA:=ae .num .and
abbrev oR:=ae .num .shr
abbrev oL:=ae .num .shl
abbrev oO:=ae .num .or
abbrev oQ:=ae .num .leq
abbrev oM:=ae .num .mul
abbrev oP(a:zV)(k:zV->Prop):Prop:=ae .ptr .eql a (.pointer none) k
abbrev jA(A:Hp->Prop)(B:Jt->Prop):Prop:=∀J:Jt,(∀H,(∀_:Fr,A H)->J [] H)->B J
abbrev jB(A:zV->Hp->Prop)(B:Jt->Prop):Prop:=∀J:Jt,(∀w H,(∀_:Fr,A w H)->J [w] H)->B J
abbrev jC(A:zV->zV->Hp->Prop)(B:Jt->Prop):Prop:=∀J:Jt,(∀w x H,(∀_:Fr,A w x H)->J [w,x] H)->B J
abbrev yA(l:List zV)(H:Hp)(K:Jt->Mt->zV->Hp->Prop):Prop:=∃(I:Jt) (m:Mt),JE I l H/\∀w H,I [w] H->∀_:Fr,K I m w H
abbrev yB(l:List zV)(H:Hp)(K:Jt->Mt->zV->zV->Hp->Prop):Prop:=∃(I:Jt) (m:Mt),JE I l H/\∀w x H,I [w,x] H->∀_:Fr,K I m w x H
abbrev nC:Array zV:=#[i0,ui 0,ui 0]
abbrev sZ:zV:=.slice none 0 0
abbrev qA(L:Y0)(f:Nat):Prop:=∀{g H R},L g H R->sc g f #[] H R
abbrev qB(L:Y1)(f:Nat):Prop:=∀{g a H R},L g a H R->sc g f #[a] H R
abbrev qC(L:Y2)(f:Nat):Prop:=∀{g a b H R},L g a b H R->sc g f #[a,b] H R
abbrev qD(L:Y3)(f:Nat):Prop:=∀{g a b c H R},L g a b c H R->sc g f #[a,b,c] H R
abbrev qE(L:Y4)(f:Nat):Prop:=∀{g a b c d H R},L g a b c d H R->sc g f #[a,b,c,d] H R
abbrev qF(L:Y5)(f:Nat):Prop:=∀{g a b c d e H R},L g a b c d e H R->sc g f #[a,b,c,d,e] H R
def hr(m:Nat)(T:zL):Nat->Nat->Hn->Hn
 |_,0,x=>x
 |i,k+1,x=>.h m [i] T (hr m T (i+1) k x) .e
def hN:Nat->Hn->Hn
 |0,x=>x
 |k+1,x=>.n .e (hN k x)
def zA(x:Hn):Hn:=.n .e x
def zB(x:Hn):Hn:=.n x .e
def zE(m:Nat)(A T:zL)(x:Hn):Hn:=.h m A T x .e
def zF(m:Nat)(A T:zL):Hn:=.h m A T .e .e
def yR:Nat->zL:=List.range
def L3:Y3:=λa b c d e f=>CR f a 4 #[] e λe g=>oP e λh=>Br h (rt f vF g) (CR f a 5 #[e,(.string (ByteArray.mk #[102,32,61,32,120,48,32,38,32,120,49]))] g λg h=>lQ 3 h #[(.string (ByteArray.mk #[])),i0,i0] 26 g λg h=>CR f a 5 #[e,(.string (ByteArray.mk #[115,97,116,115,32,102]))] h λh i=>lQ 3 i #[(.string (ByteArray.mk #[])),i0,i0] 26 h λh i=>lD 2 (pt g) i λj=>lN j i0 λj=>lO j (λj=>lD 0 (pt g) i λg=>ae .str .neq g (.string (ByteArray.mk #[50])) λg=>(lV i g j)) λj=>lO (Value.bool j) (λg=>lD 2 (pt h) i λj=>lN j i0 λj=>(lV i j g)) λg=>lO (Value.bool g) (λg=>lD 0 (pt h) i λh=>ae .str .neq h (.string (ByteArray.mk #[54,52])) λh=>(lV i h g)) λg=>Br (Value.bool g) (rt f vF i) (CR f a 6 #[(iv 8),b] i λg h=>lX g λi j=>Ext 2 g λg=>lQ 2 h #[i0,sZ] 30 i λh i=>aN b λk=>lG k (iv 390) λk=>lO k (λk=>ae .str .eql b (.string (ByteArray.mk #[])) λl=>(lV i l k)) λk=>lO (Value.bool k) (λk=>bP b i0 λl=>lE l (bi 32) λl=>(lV i l k)) λk=>Br (Value.bool k) (rt f vT i) (ae .str .add (.string (ByteArray.mk #[103,32,61,32])) b λb=>CR f a 5 #[e,b] i λb i=>lQ 3 i #[(.string (ByteArray.mk #[])),i0,i0] 26 b λb i=>lN g i0 λk=>Br k (lD 2 (pt b) i λk=>lE k g λg=>lU g (λg=>lD 1 (pt b) i λk=>lA j (iv 4) λj=>lE k j λj=>(lV i j g)) λg=>rt f (Value.bool g) i) (lD 2 (pt b) i λg=>lE g (iv 9) λg=>Br g (lD 0 (pt b) i λg=>ae .str .eql g (.string (ByteArray.mk #[])) λg=>rt f g i) (lD 2 (pt b) i λb=>lN b i0 λb=>Br b (rt f vF i) (ax 2 i (pt h) λb=>CR f a 7 #[b] i λb g=>lX b λb i=>ax 2 g (pt h) λj=>aH .u64 c λk=>CR f a 8 #[j,k] g λg j=>lX g λg k=>lN i i0 λi=>lO i (λi=>lN k i0 λk=>(lV j k i)) λi=>Br (Value.bool i) (rt f vF j) (jB (λi k=>Br i (rt f vF k) (CR f a 5 #[e,(.string (ByteArray.mk #[115,97,116,115,32,103]))] k λi k=>lQ 3 k #[(.string (ByteArray.mk #[])),i0,i0] 26 i λi k=>aH .u64 c λc=>CR f a 9 #[c] k λc k=>ae .str .add (.string (ByteArray.mk #[101,118,97,108,32,103,32])) c λc=>CR f a 5 #[e,c] k λc k=>lQ 3 k #[(.string (ByteArray.mk #[])),i0,i0] 26 c λc k=>CR f a 5 #[e,(.string (ByteArray.mk #[115,104,111,119,32,103]))] k λk l=>lQ 3 l #[(.string (ByteArray.mk #[])),i0,i0] 26 k λk l=>jB (λm n=>Br m (rt f vF n) (lD 2 (pt k) n λm=>lN m i0 λm=>Br m (lD 2 (pt k) n λm=>lE m (iv 13) λm=>rt f m n) (lD 0 (pt k) n λk=>CR f a 6 #[(iv 8),k] n λk m=>lX k λn _=>Ext 2 k λk=>lQ 2 m #[i0,sZ] 30 n λm n=>jB (λo p=>rt f o p) λo=>lE k i0 λk=>Split k true (ax 2 n (pt m) λk=>ax 2 n (pt h) λh=>CR f a 10 #[k,h] n λh k=>aI vT h vF λh=>JE o [h] k) (aI vF undef vF λh=>JE o [h] n)))) λh=>DR l λk=>lD 2 (pt i) k λm=>lN m i0 λm=>Br m (JE h [vT] l) (lD 2 (pt c) k λm=>lN m i0 λm=>aI vF vT m λm=>Br m (JE h [vT] l) (lD 0 (pt i) k λi=>∀m:Hp,
CN (a.add m) 9 #[b] l λb l=>aF l k/\
ae .str .neq i b λb=>aI vF vT b λb=>Br b (JE h [vT] l) (lD 0 (pt c) k λb=>ae .str .eql b (.string (ByteArray.mk #[49])) λb=>ae .bool .neq b g λb=>aI vF vT b λb=>Br b (JE h [vT] l) (lD 0 (pt c) k λb=>ae .str .eql b (.string (ByteArray.mk #[48])) λb=>ae .bool .eql b g λb=>aI vF vT b λb=>JE h [b] l)))))) λb=>ae .num .rem d (bi 3) λc=>lE c (bi 1) λc=>Split c true (CR f a 5 #[e,(.string (ByteArray.mk #[115,105,102,116,32,49,50,48]))] j λc g=>wx 2 c λc=>lN c i0 λc=>aI vT c vF λc=>Split c false (ae .num .rem d (bi 3) λc=>lE c (bi 2) λc=>Split c true (CR f a 5 #[e,(.string (ByteArray.mk #[101,120,97,99,116]))] g λc h=>wx 2 c λc=>lN c i0 λc=>aI vT c vF λc=>aI vF vT c λc=>JE b [c] h) (aI vF undef vF λc=>aI vF vT c λc=>JE b [c] g)) (aI vT vT undef λc=>JE b [c] g)) (aI vF undef vF λc=>ae .num .rem d (bi 3) λd=>lE d (bi 2) λd=>Split d true (CR f a 5 #[e,(.string (ByteArray.mk #[101,120,97,99,116]))] j λa d=>wx 2 a λa=>lN a i0 λa=>aI vT a vF λa=>aI c vT a λa=>JE b [a] d) (aI vF undef vF λa=>aI c vT a λa=>JE b [a] j)))))))))
theorem Sg:qD L3 3:=λh=>sd (hN 5 (.n (zB (zF 0 [] [1])) (zA (.n (zB (zF 0 [] [1])) (zA (.n (zA (zB (zB (zF 0 [] [1])))) (hN 4 (.n (zB (zF 0 [] [1])) (.n (zF 1 [130] [1,7,10,14,16]) (hN 3 (.n (zE 1 [169] [10,20] (zE 1 [] [] (hr 0 [] 0 3 (.h 2 [3] [] (hr 0 [] 4 3 (hr 3 [] 7 2 (hr 0 [] 9 5 (hr 3 [] 14 2 (hr 0 [] 16 5 (hr 3 [] 21 2 (hr 0 [] 23 5 (zF 3 [28] [])))))))) (hr 0 [] 4 4 (.h 2 [8] [] (hr 0 [] 9 5 (hr 3 [] 14 2 (hr 0 [] 16 5 (hr 3 [] 21 2 (hr 0 [] 23 5 (zF 3 [28] [])))))) (hr 0 [] 9 6 (.h 2 [15] [] (hr 0 [] 16 5 (hr 3 [] 21 2 (hr 0 [] 23 5 (zF 3 [28] [])))) (hr 0 [] 16 6 (.h 2 [22] [] (hr 0 [] 23 5 (zF 3 [28] [])) (hr 0 [] 23 6 .e))))))))))) (zA (zA (zF 1 [6] [])))))))))))))) func3 h
def L4:Y0:=λ_ a b=>Build Tryz.prog 44 [] λc=>lK a c 44 λa c=>rt b (pt a) c
theorem Sf:qA L4 4:=λh=>sd .e func4 h
def L5:Y2:=λa b c d e=>lW d #[(.string (ByteArray.mk #[])),i0,i0] 26 λd f=>oP b λg=>Br g (Build Tryz.prog 26 [] λg=>St 3 f (pt d) g λg=>ax 3 g (pt d) λh=>rt e h g) (CR e a 11 #[b] f λ_ f=>aN c λg=>lG g (iv 400) λg=>Br g (CR e a 12 #[i0,(iv 13)] f λg h=>St 3 h (pt d) g λg=>ax 3 g (pt d) λh=>rt e h g) (CR e a 13 #[c] f λf g=>aE f λh=>lE h i0 λh=>Br h (Build Tryz.prog 26 [] λh=>St 3 g (pt d) h λh=>ax 3 h (pt d) λi=>rt e i h) (ah 3 f i0 λh=>af 0 h λh=>Ld g h λh=>CR e a 14 #[b,h] g λg h=>lX g λg i=>lQ 3 h #[(.string (ByteArray.mk #[])),(.string (ByteArray.mk #[])),.nilFunc] 50 g λg h=>Br i (DR h λi=>lD 1 (pt g) i λj=>cP 3 f (some i1) none λk=>aN c λl=>∀m:Hp,
CN (a.add m) 15 #[b,j,k,l] h λj k=>aF k i/\
lX j λi j=>lW k #[(.string (ByteArray.mk #[])),i0,i0] 26 λk l=>∀_:Hp,
St 3 l (pt k) j λj=>lD 2 (pt k) j λl=>lN l i0 λl=>Br l (ax 3 j (pt k) λk=>St 3 j (pt d) k λk=>ax 3 k (pt d) λl=>rt e l k) (lD 2 (pt g) j λg=>bK Tryz.prog a g #[i] j (λg i=>St 3 i (pt d) g λg=>ax 3 g (pt d) λi=>rt e i g) (cv e))) (ah 3 f i0 λg=>af 0 g λg=>Ld h g λg=>CR e a 16 #[b,g] h λg h=>Un .not g λg=>lO g (λg=>aE f λi=>lL i (iv 2) λi=>(lV h i g)) λg=>lO (Value.bool g) (λg=>ah 3 f i1 λi=>af 0 i λi=>Ld h i λi=>ae .str .neq i (.string (ByteArray.mk #[61])) λi=>(lV h i g)) λg=>Br (Value.bool g) (ah 3 f i0 λg=>af 1 g λg=>Ld h g λg=>CR e a 12 #[g,(iv 15)] h λg i=>St 3 i (pt d) g λg=>ax 3 g (pt d) λi=>rt e i g) (DR h λg=>ah 3 f i0 λi=>af 0 i λi=>Ld g i λi=>ah 3 f i1 λf=>ax 3 g f λf=>CN a 18 #[c,f] h λf h=>aF h g/\
CN a 17 #[b,i,c,f] h λa b=>aF b g/\
St 3 b (pt d) a λa=>ax 3 a (pt d) λb=>rt e b a)))))
theorem C8:qC L5 5:=λh=>sd (hN 6 (.n (zA (zA (zB (zB (zE 1 [] [] (hr 0 [] 0 7 (zE 1 [11] [] (hr 0 [] 7 7 .e)))))))) (.n (zB (zF 0 [] [1])) (zB (zF 0 (yR 13) []))))) func5 h
def L6:Y2:=λa b c d e=>lW d #[i0,sZ] 30 λd f=>lL b i0 λg=>Br g (Build Tryz.prog 30 [] λg=>St 2 f (pt d) g λg=>ax 2 g (pt d) λh=>rt e (.tuple #[h,i0,i1]) g) (lG b (iv 16) λg=>Br g (Build Tryz.prog 30 [] λg=>St 2 f (pt d) g λg=>ax 2 g (pt d) λh=>rt e (.tuple #[h,i0,(iv 6)]) g) (CR e a 19 #[c,b] f λc f=>lX c λg h=>Ext 2 c λc=>lN c i0 λi=>Br i (Build Tryz.prog 30 [] λi=>St 2 f (pt d) i λi=>ax 2 i (pt d) λj=>rt e (.tuple #[j,h,c]) i) (CR e a 20 #[b,g] f λa b=>St 2 b (pt d) a λa=>ax 2 a (pt d) λb=>rt e (.tuple #[b,i0,i0]) a)))
theorem Se:qC L6 6:=λh=>sd .e func6 h
def L7:Y1:=λa b c d=>lK c b 30 λb c=>ax 2 c (pt b) λe=>aj Tryz.prog 96 1 [(0,e)] c λc e=>CR d a 21 #[c] e λc e=>Un .not c λc=>Br c (rt d (tP (wi 0) (iv 5)) e) (lD 1 (pt b) e λb=>aE b λc=>yB [i0,i0] e λe f g h i=>lL h c λc=>Br c (lI 1 b h i λb=>CR d a 22 #[b] i λa b=>lA g a λa=>lA h i1 λc=>az e f [a,c] b [g,h] i) (aH .u64 g λa=>rt d (tP a i0) i))
theorem Sd:qB L7 7:=λh=>sd (hN 3 (zB (zA (zB (zF 0 [4,14] [12,13]))))) func7 h
def L8:Y2:=λa b c d e=>lK d b 30 λb d=>ax 2 d (pt b) λf=>aj Tryz.prog 96 1 [(0,f)] d λd f=>CR e a 21 #[d] f λa d=>Un .not a λa=>Br a (rt e (tP vF (iv 5)) d) (lD 0 (pt b) d λa=>oR c a λa=>lN a (wi 0) λa=>Br a (rt e (tP vF i1) d) (lD 1 (pt b) d λa=>ae .num .quo c (wi 64) λb=>lI 1 a b d λa=>ae .num .rem c (wi 64) λb=>oR a b λa=>oA a (wi 1) λa=>lE a (wi 1) λa=>rt e (tP a i0) d))
theorem Sc:qC L8 8:=λh=>sd .e func8 h
def L9:Y1:=λa b c d=>lL b (wi 10) λe=>Br e (lA (wi 48) b λe=>aH .u8 e λe=>aj Tryz.prog 67 1 [(0,e)] c λe f=>dK f e λe=>rt d e f) (ae .num .quo b (wi 10) λe=>CR d a 9 #[e] c λc e=>ae .num .rem b (wi 10) λb=>CR d a 9 #[b] e λa b=>ae .str .add c a λa=>rt d a b)
theorem C7:qB L9 9:=λh=>sd .e func9 h
def L10:Y2:=λ_ a b c d=>lK c a 30 λa c=>lK c b 30 λb c=>lD 0 (pt a) c λe=>lD 0 (pt b) c λf=>lN e f λe=>lO e (λe=>lD 1 (pt a) c λf=>aE f λf=>lD 1 (pt b) c λg=>aE g λg=>lN f g λf=>(lV c f e)) λe=>Br (Value.bool e) (rt d vF c) (yA [i0] c λc e f g=>lD 1 (pt a) g λh=>aE h λh=>lL f h λh=>Br h (lD 1 (pt a) g λa=>lI 1 a f g λa=>lD 1 (pt b) g λb=>lI 1 b f g λb=>lN a b λa=>Br a (rt d vF g) (lA f i1 λa=>az c e [a] g [f] g)) (rt d vT g))
theorem Nj:qC L10 10:=λh=>sd (zA (.n (zB (zF 0 [] [1])) (zB (zA (zB (zF 0 [5] [2,3])))))) func10 h
def L11:Y1:=λa b c d=>lM 0 b c λe=>oP e λe=>Br e (CR d a 23 #[(iv 8),(iv 1000)] c λa e=>lX a λa _=>lC 0 b λf=>St 1 e f a λa=>kH a λa e=>lC 1 b λb=>St 1 e b a λa=>rt d (.tuple #[]) a) (rt d (.tuple #[]) c)
theorem yP:qB L11 11:=λh=>sd .e func11 h
def L12:Y2:=λ_ a b c d=>lW c #[(.string (ByteArray.mk #[])),i0,i0] 26 λc e=>Build Tryz.prog 26 [(1,a),(2,b)] λa=>St 3 e (pt c) a λa=>ax 3 a (pt c) λb=>rt d b a
theorem Ni:qC L12 12:=λh=>sd .e func12 h
def L13:Y1:=λa b c d=>∃(e:Jt) (f:Mt),JE e [sZ,(iv (-1)),i0] c/\∀c g h:zV,∀i:Hp,e [c,g,h] i->∀_:Fr,
aN b λj=>oQ h j λj=>Br j (jC (λj k l=>lA h i1 λm=>az e f [j,k,m] l [c,g,h] i) λe=>aN b λf=>lE h f λf=>lO f (λf=>bP b h λj=>lE j (bi 32) λj=>(lV i j f)) λf=>lU (Value.bool f) (λj=>oG g i0 λk=>(lV i k j)) λj=>Br (Value.bool j) (aZ Tryz.prog a (bM Tryz.f13 8 4) (ev (λa=>cond (Nat.beq a 30) b (cond (Nat.beq a 31) g (cond (Nat.beq a 32) h (undef))))) i λa=>Build Tryz.prog 54 [(0,a),(1,g),(2,h)] λa=>aj Tryz.prog 46 1 [(0,a)] i λa b=>App Tryz.prog 54 3 32 (.agg #[(.string (ByteArray.mk #[])),i0,i0]) b c a λa b=>JE e [a,(iv (-1))] b) (Un .not (Value.bool f) λa=>lU a (λa=>lL g i0 λb=>(lV i b a)) λa=>Br (Value.bool a) (JE e [c,h] i) (JE e [c,g] i))) (rt d c i)
theorem Nh:qB L13 13:=λh=>sd (hN 3 (zB (zA (zB (zE 0 [3,4,5] [0] (zA (zE 1 [3,4] [0,5] (zB (.n (zF 0 [] [1]) (zB (.n (zF 0 [] [1]) (zA (zB (zF 0 [] [1])))))))))))))) func13 h
def L14:Y2:=λa b c d e=>lK d c 9 λc d=>lW d #[(.string (ByteArray.mk #[])),(.string (ByteArray.mk #[])),.nilFunc] 50 λd f=>CR e a 24 #[b] f λb f=>CR e a 25 #[b,(.func (.func 26) #[] #[(pt c)])] f λa c=>lL a i0 λf=>Br f (Build Tryz.prog 50 [] λf=>St 3 c (pt d) f λf=>ax 3 f (pt d) λg=>rt e (tP g vF) f) (ah 3 b a λa=>ax 3 c a λa=>St 3 c (pt d) a λa=>ax 3 a (pt d) λb=>rt e (tP b vT) a)
theorem Ng:qC L14 14:=λh=>sd .e func14 h
def L15:Y4:=λa b c d e f g=>lW f #[(.string (ByteArray.mk #[])),i0,i0] 26 λf h=>jB (λi j=>aE d λk=>yB [sZ,i0] j λj l m n o=>lL n k λk=>Br k (ah 3 d n λk=>ax 3 o k λk=>lQ 3 o #[(.string (ByteArray.mk #[])),i0,i0] 54 k λk p=>aN i λq=>oG n q λq=>Br q (lD 1 (pt k) p λq=>CR g a 12 #[q,(iv 14)] p λq r=>St 3 r (pt f) q λq=>ax 3 q (pt f) λr=>rt g (tP sZ r) q) (ax 3 p (pt k) λq=>Build Tryz.prog 76 [(0,q)] λq=>lQ 4 p #[(.string (ByteArray.mk #[])),i0,i0,i0] 76 q λp q=>jB (λr s=>Un .not r λr=>Br r (lD 1 (pt k) s λr=>CR g a 12 #[r,(iv 14)] s λr t=>St 3 t (pt f) r λr=>ax 3 r (pt f) λt=>rt g (tP sZ t) r) (ax 4 s (pt p) λr=>aj Tryz.prog 55 1 [(0,r)] s λr s=>App Tryz.prog 76 4 40 (.agg #[(.string (ByteArray.mk #[])),i0,i0,i0]) s m r λr s=>lA n i1 λt=>az j l [r,t] s [m,n] o)) λj=>bP i n λl=>lE l (bi 110) λl=>Br l (lD 0 (pt k) q λl=>CR g a 28 #[l] q λl n=>lX l λl r=>af 3 (pt p) λp=>St 1 n p l λl=>JE j [r] l) (lD 0 (pt k) q λk=>CR g a 16 #[b,k] q λk l=>JE j [k] l))) (aE d λj=>aN i λk=>lL j k λj=>Br j (CR g a 12 #[e,(iv 14)] o λe j=>St 3 j (pt f) e λe=>ax 3 e (pt f) λj=>rt g (tP sZ j) e) (aE m λe=>yA [i0] o λj k l n=>lL l e λe=>Br e (ah 4 m l λe=>ax 4 n e λe=>lQ 4 n #[(.string (ByteArray.mk #[])),i0,i0,i0] 76 e λe o=>lM 1 b o λb=>af 0 (pt e) λp=>af 0 p λp=>Ld o p λp=>jE (.string) (ui 0) true o b p λb=>lX b λ_ b=>bP i l λi=>lE i (bi 115) λi=>lU i (λi=>Un .not b λb=>(lV o b i)) λi=>Br (Value.bool i) (af 0 (pt e) λb=>af 1 b λb=>Ld o b λb=>CR g a 12 #[b,(iv 15)] o λb e=>St 3 e (pt f) b λb=>ax 3 b (pt f) λe=>rt g (tP sZ e) b) (lA l i1 λb=>az j k [b] o [l] n)) (Build Tryz.prog 26 [] λb=>St 3 n (pt f) b λb=>ax 3 b (pt f) λe=>rt g (tP m e) b)))) λb=>ae .str .eql c (.string (ByteArray.mk #[43])) λe=>Br e (aE d λd=>CR g a 27 #[(.string (ByteArray.mk #[110])),d] h λa d=>JE b [a] d) (JE b [c] h)
theorem Nf:qE L15 15:=λh=>sd (zA (.h 1 [1] [0,2,3,9] .e (zA (.n (zA (zB (zE 0 [10,26] [0,1,2,3,9,24,25] (zA (zA (zB (zB (hN 3 (zF 1 [14] [0,1,2,3,9,10,12,13,24,25,26]))))))))) (zA (zB (zA (zB (zE 0 [74] [0,1,9,10,72,73] (zA (zA (zB (zB (zA (zA (zB (zF 0 [] [1]))))))))))))))))) func15 h
def L16:Y2:=λa b c d e=>CR e a 14 #[b,c] d λb d=>lX b λb f=>lQ 3 d #[(.string (ByteArray.mk #[])),(.string (ByteArray.mk #[])),.nilFunc] 50 b λ_ b=>CR e a 29 #[c] b λa b=>lU a (λa=>Un .not f λc=>(lV b c a)) λa=>rt e (Value.bool a) b
theorem Nc:qC L16 16:=λh=>sd (zA (zA (zB (zF 0 [] [1])))) func16 h
def L17:Y4:=λa b c d e f g=>lW f #[(.string (ByteArray.mk #[])),i0,i0] 26 λf h=>DR h λi=>lM 0 b i λj=>aZ Tryz.prog a (bM Tryz.f17 1 6) (ev (λk=>cond (Nat.beq k 17) d (cond (Nat.beq k 18) e (undef)))) i λd=>CN a 30 #[j,d] h λd h=>aF h i/\
lX d λi j=>Ext 2 d λd=>lE d (iv 14) λk=>lO k (λk=>lE d (iv 2) λl=>(lV h l k)) λk=>lO (Value.bool k) (λk=>lE d (iv 7) λl=>(lV h l k)) λk=>Br (Value.bool k) (lA e j λe=>CR g a 12 #[e,d] h λe j=>St 3 j (pt f) e λe=>ax 3 e (pt f) λj=>rt g j e) (CR g a 31 #[b,c,i,d] h λa b=>St 3 b (pt f) a λa=>ax 3 a (pt f) λb=>rt g b a)
theorem M9:qE L17 17:=λh=>sd (zA (.n (zF 0 (yR 15) []) (zB (zB (zF 0 [] [1]))))) func17 h
def L18:Y2:=λ_ a b c d=>lK c b 54 λb c=>lD 2 (pt b) c λb=>yA [b] c λb c e f=>aN a λg=>lL e g λg=>lU g (λg=>bP a e λa=>lE a (bi 32) λa=>(lV f a g)) λg=>Br (Value.bool g) (lA e i1 λa=>az b c [a] f [e] f) (rt d e f)
theorem M8:qC L18 18:=λh=>sd (zA (zA (zB (zB (zE 0 [5] [0] (zB (zB (zF 0 [] [1])))))))) func18 h
def L19:Y2:=λa b c d e=>lW d #[(.pointer none)] 61 λd f=>lW f #[i0] 3 λf g=>lW g #[i0] 24 λg h=>aN b λi=>lG i (iv 65536) λi=>Br i (St 1 h (pt d) (.pointer none) λi=>St 1 i (pt f) i0 λi=>St 1 i (pt g) (iv 13) λi=>Ld i (pt d) λj=>Ld i (pt f) λk=>Ld i (pt g) λl=>rt e (.tuple #[j,k,l]) i) (CF a 33 #[b] h (λb h=>Build Tryz.prog 92 [(0,b),(1,c)] λb=>lK h b 92 λb c=>CF a 34 #[(pt b),i0,i0] c (λc h=>St 1 h (pt d) c λc=>CF a 35 #[(pt b),i0] c (λ_ b=>Ld b (pt d) λc=>St 1 b (pt d) c λb=>St 1 b (pt f) i0 λb=>St 1 b (pt g) i0 λb=>jF Tryz.prog 32 a #[(pt d),(pt f),(pt g)] .returning b λb=>Ld b (pt d) λc=>Ld b (pt f) λh=>Ld b (pt g) λi=>rt e (.tuple #[c,h,i]) b) (λb c=>∀_:Fr,jF Tryz.prog 32 a #[(pt d),(pt f),(pt g)] (.panicking b) c λb=>Ld b (pt d) λc=>Ld b (pt f) λh=>Ld b (pt g) λi=>rt e (.tuple #[c,h,i]) b)) (λb c=>∀_:Fr,jF Tryz.prog 32 a #[(pt d),(pt f),(pt g)] (.panicking b) c λb=>Ld b (pt d) λc=>Ld b (pt f) λh=>Ld b (pt g) λi=>rt e (.tuple #[c,h,i]) b)) (λb c=>∀_:Fr,jF Tryz.prog 32 a #[(pt d),(pt f),(pt g)] (.panicking b) c λa=>Ld a (pt d) λb=>Ld a (pt f) λc=>Ld a (pt g) λd=>rt e (.tuple #[b,c,d]) a))
theorem M7(h:L19 g a0 a1 H R):sc g 19 #[a0,a1] H R:=
 Oz func19 h zK
def L20:Y2:=λa b c d e=>lW d #[i0,sZ] 30 λd f=>lM 2 c f λg=>aE g λh=>yB [sZ,i0] f λf i j k l=>lL k h λh=>Br h (lI 1 g k l λg=>CR e a 20 #[b,g] l λg h=>aj Tryz.prog 96 1 [(0,g)] h λg h=>App Tryz.prog 30 2 32 (.agg #[i0,sZ]) h j g λg h=>lA k i1 λm=>az f i [g,m] h [j,k] l) (lW l #[i0,sZ] 30 λf g=>jA (λh=>ax 2 h (pt f) λi=>St 2 h (pt d) i λh=>ax 2 h (pt d) λd=>rt e d h) λd=>lM 0 c g λh=>jB (λi k=>Br i (lM 0 c k λi=>lE i (iv 2) λi=>CR e a 36 #[b,i] k λi l=>lX i λi _=>St 2 l (pt f) i λi=>JE d [] i) (lE h (iv 3) λi=>Br i (lM 1 c k λc=>CR e a 37 #[b,c] k λb c=>lX b λb _=>St 2 c (pt f) b λb=>JE d [] b) (lE h (iv 4) λb=>Br b (ah 2 j i0 λb=>ax 2 k b λb=>CR e a 38 #[b] k λb c=>lX b λb _=>St 2 c (pt f) b λb=>JE d [] b) (lE h (iv 5) λb=>Br b (DR k λb=>ah 2 j i0 λc=>ax 2 b c λc=>ah 2 j i1 λe=>ax 2 b e λe=>CN a 39 #[(bi 8),c,e] k λc e=>aF e b/\
lX c λc _=>St 2 e (pt f) c λc=>aF c b/\
JE d [] c) (lE h (iv 6) λb=>Br b (DR k λb=>ah 2 j i0 λc=>ax 2 b c λc=>ah 2 j i1 λe=>ax 2 b e λe=>CN a 39 #[(bi 6),c,e] k λc e=>aF e b/\
lX c λc _=>St 2 e (pt f) c λc=>aF c b/\
JE d [] c) (lE h (iv 7) λb=>Br b (DR k λb=>ah 2 j i0 λc=>ax 2 b c λc=>ah 2 j i1 λe=>ax 2 b e λe=>CN a 39 #[(bi 14),c,e] k λc e=>aF e b/\
lX c λc _=>St 2 e (pt f) c λc=>aF c b/\
JE d [] c) (lE h (iv 8) λb=>Br b (DR k λb=>ah 2 j i0 λc=>ax 2 b c λc=>ah 2 j i1 λe=>ax 2 b e λe=>CN a 39 #[(bi 11),c,e] k λc e=>aF e b/\
lX c λc _=>St 2 e (pt f) c λc=>aF c b/\
JE d [] c) (lE h (iv 9) λb=>Br b (DR k λb=>ah 2 j i0 λc=>ax 2 b c λc=>ah 2 j i1 λe=>ax 2 b e λe=>CN a 39 #[(bi 9),c,e] k λc e=>aF e b/\
lX c λc _=>St 2 e (pt f) c λc=>aF c b/\
JE d [] c) (DR k λb=>ah 2 j i0 λc=>ax 2 b c λc=>ah 2 j i1 λe=>ax 2 b e λe=>ah 2 j (iv 2) λi=>ax 2 b i λi=>CN a 40 #[c,e,i] k λa c=>aF c b/\
lX a λa _=>St 2 c (pt f) a λa=>aF a b/\
JE d [] a))))))))) λa=>lE h i1 λb=>Br b (JE a [b] g) (lE h (iv 2) λb=>JE a [b] g))
theorem M6:qC L20 20:=λh=>sd (zA (zA (.n (zA (zB (zF 0 [5,14] [0,1,4,12,13]))) (zA (zE 1 [] [4,8] (zA (zB (.h 1 [42] [0,1,4,5,8,28] .e (hN 6 (.n (zF 0 (yR 11) []) (zA (.n (zF 0 (yR 11) []) (zA (.n (zF 0 (yR 11) []) (zA (.n (zF 0 (yR 11) []) (zA (.n (zF 0 (yR 11) []) (zF 0 (yR 14) []))))))))))))))))))) func20 h
def L21:Y1:=λa b c d=>aE b λe=>yA [i0] c λc f g h=>lL g e λe=>Br e (ah 2 b g λe=>ax 2 h e λe=>lQ 2 h #[i0,sZ] 30 e λe i=>jB (λj k=>Br j (rt d vF k) (lA g i1 λj=>az c f [j] k [g] h)) λc=>DR i λf=>ax 2 f (pt e) λg=>∀j:Hp,
CN (a.add j) 41 #[g] i λa g=>aF g f/\
Un .not a λa=>Br a (JE c [vT] g) (lD 0 (pt e) f λa=>ah 2 b i0 λb=>af 0 b λb=>Ld f b λb=>lN a b λa=>aI vF vT a λa=>JE c [a] g)) (rt d vT h)
theorem M5:qB L21 21:=λh=>sd (zA (zB (zA (zB (zE 0 [7] [0,5,6] (zA (zA (zB (zB (zA (zE 1 [22] [0,5,6,7] (zE 1 [] [] (hr 0 [] 0 3 (.h 2 [3] [] (hr 0 [] 4 7 (zF 3 [11] [])) (hr 0 [] 4 8 .e))))))))))))))) func21 h
def L22:Y1:=λ_ a b c=>oR a (wi 1) λd=>oA d (wi 6148914691236517205) λd=>oA a (wi 6148914691236517205) λa=>lA d a λa=>oR a (wi 2) λd=>oA d (wi 3689348814741910323) λd=>oA a (wi 3689348814741910323) λa=>lA d a λa=>oR a (wi 4) λd=>lA d a λa=>oA a (wi 1085102592571150095) λa=>oR a (wi 8) λd=>lA a d λa=>oR a (wi 16) λd=>lA a d λa=>oR a (wi 32) λd=>lA a d λa=>aH .i64 a λa=>oA a (iv 127) λa=>rt c a b
theorem M4:qB L22 22:=λh=>sd .e func22 h
def L23:Y2:=λa b c d e=>CR e a 42 #[b] d λd f=>lX d λd g=>lN g i0 λg=>lO g (λg=>lL b i1 λh=>(lV f h g)) λg=>lO (Value.bool g) (λg=>lL c (iv 2) λh=>(lV f h g)) λg=>lO (Value.bool g) (λg=>lG c (iv 1048576) λh=>(lV f h g)) λg=>Br (Value.bool g) (rt e (tP (.pointer none) i1) f) (CR e a 43 #[b] f λf g=>lX f λf h=>lN h i0 λi=>Br i (rt e (tP (.pointer none) h) g) (CR e a 44 #[c,f] g λc f=>lX c λc g=>lQ 4 f #[(.pointer none),(.pointer none),sZ,sZ] 117 c λc f=>lN g i0 λh=>Br h (rt e (tP (.pointer none) g) f) (DR f λg=>ax 4 g (pt c) λc=>CN a 45 #[d] f λa f=>aF f g/\
Build Tryz.prog 122 [(0,c),(1,b),(2,d),(3,a)] λa=>lK f a 122 λa b=>aF b g/\
rt e (tP (pt a) i0) b)))
theorem M3:qC L23 23:=λh=>sd (zA (zA (.n (zB (zF 0 [] [1])) (hN 4 (zB (zF 0 (yR 9) [])))))) func23 h
def L24:Y1:=λ_ a b c=>Build Tryz.prog 50 [(0,(.string (ByteArray.mk #[110,101,119]))),(1,(.string (ByteArray.mk #[110,110]))),(2,(.func (.func 46) #[a] #[]))] λd=>Build Tryz.prog 50 [(0,(.string (ByteArray.mk #[97,110,100]))),(1,(.string (ByteArray.mk #[100,115,115]))),(2,(.func (.func 47) #[a] #[]))] λe=>Build Tryz.prog 50 [(0,(.string (ByteArray.mk #[111,114]))),(1,(.string (ByteArray.mk #[100,115,115]))),(2,(.func (.func 48) #[a] #[]))] λf=>Build Tryz.prog 50 [(0,(.string (ByteArray.mk #[120,111,114]))),(1,(.string (ByteArray.mk #[100,115,115]))),(2,(.func (.func 49) #[a] #[]))] λg=>Build Tryz.prog 50 [(0,(.string (ByteArray.mk #[110,111,116]))),(1,(.string (ByteArray.mk #[100,115]))),(2,(.func (.func 50) #[a] #[]))] λh=>Build Tryz.prog 50 [(0,(.string (ByteArray.mk #[100,114,111,112]))),(1,(.string (ByteArray.mk #[115]))),(2,(.func (.func 51) #[a] #[]))] λi=>Build Tryz.prog 50 [(0,(.string (ByteArray.mk #[115,104,111,119]))),(1,(.string (ByteArray.mk #[115]))),(2,(.func (.func 52) #[a] #[]))] λj=>Build Tryz.prog 50 [(0,(.string (ByteArray.mk #[101,118,97,108]))),(1,(.string (ByteArray.mk #[115,110]))),(2,(.func (.func 53) #[a] #[]))] λk=>Build Tryz.prog 50 [(0,(.string (ByteArray.mk #[115,97,116,115]))),(1,(.string (ByteArray.mk #[115]))),(2,(.func (.func 54) #[a] #[]))] λl=>Build Tryz.prog 50 [(0,(.string (ByteArray.mk #[108,101,97,115,116]))),(1,(.string (ByteArray.mk #[115]))),(2,(.func (.func 55) #[a] #[]))] λm=>Build Tryz.prog 50 [(0,(.string (ByteArray.mk #[115,97,109,101]))),(1,(.string (ByteArray.mk #[115,115]))),(2,(.func (.func 56) #[a] #[]))] λn=>Build Tryz.prog 50 [(0,(.string (ByteArray.mk #[108,105,118,101]))),(1,(.string (ByteArray.mk #[]))),(2,(.func (.func 57) #[a] #[]))] λo=>Build Tryz.prog 50 [(0,(.string (ByteArray.mk #[111,114,100,101,114]))),(1,(.string (ByteArray.mk #[43]))),(2,(.func (.func 58) #[a] #[]))] λp=>Build Tryz.prog 50 [(0,(.string (ByteArray.mk #[115,119,97,112]))),(1,(.string (ByteArray.mk #[110]))),(2,(.func (.func 59) #[a] #[]))] λq=>Build Tryz.prog 50 [(0,(.string (ByteArray.mk #[115,105,102,116]))),(1,(.string (ByteArray.mk #[110]))),(2,(.func (.func 60) #[a] #[]))] λr=>Build Tryz.prog 50 [(0,(.string (ByteArray.mk #[115,101,116,116,108,101]))),(1,(.string (ByteArray.mk #[110]))),(2,(.func (.func 61) #[a] #[]))] λs=>Build Tryz.prog 50 [(0,(.string (ByteArray.mk #[119,105,110,100,111,119]))),(1,(.string (ByteArray.mk #[110]))),(2,(.func (.func 62) #[a] #[]))] λt=>Build Tryz.prog 50 [(0,(.string (ByteArray.mk #[101,120,97,99,116]))),(1,(.string (ByteArray.mk #[]))),(2,(.func (.func 63) #[a] #[]))] λu=>Build Tryz.prog 50 [(0,(.string (ByteArray.mk #[110,97,109,101,115]))),(1,(.string (ByteArray.mk #[]))),(2,(.func (.func 64) #[a] #[]))] λa=>aj Tryz.prog 70 19 [(0,d),(1,e),(2,f),(3,g),(4,h),(5,i),(6,j),(7,k),(8,l),(9,m),(10,n),(11,o),(12,p),(13,q),(14,r),(15,s),(16,t),(17,u),(18,a)] b λa b=>rt c a b
theorem M1:qB L24 24:=λh=>sd .e func24 h
def L25:Y2:=λa b c d e=>aE b λf=>yA [i0] d λd g h i=>lL h f λf=>Br f (ah 3 b h λb=>ax 3 i b λb=>bK Tryz.prog a c #[b] i (λa b=>Br a (rt e h b) (lA h i1 λa=>az d g [a] b [h] i)) (cv e)) (e (.returned (iv (-1))) i)
theorem M0:qC L25 25:=λh=>sd (zA (zB (zA (zB (zF 0 [8] [0,1,7]))))) func25 h
def L26:Y2:=λ_ a b c d=>lK c a 50 λa c=>lD 0 (pt a) c λa=>Ld c b λb=>ae .str .eql a b λa=>rt d a c
theorem MZ:qC L26 26:=λh=>sd .e func26 h
def L27:Y2:=λa b c d e=>lE c i0 λf=>Br f (e (.returned (.string (ByteArray.mk #[]))) d) (lE c i1 λf=>Br f (rt e b d) (jA (λf=>aN b λg=>aH .u64 g λg=>aH .u64 c λh=>CR e a 65 #[g,h] f λf g=>lX f λf h=>jA (λi=>aH .i64 h λj=>aN b λk=>lE k i0 λk=>Br k (e (.returned (.string (ByteArray.mk #[]))) i) (jA (λk=>jB (λl m=>lW m #[(.pointer none),sZ] 128 λm n=>CR e a 67 #[(pt m),j] n λ_ n=>CR e a 68 #[(pt m),b] n λ_ n=>∃(o:Jt) (p:Mt),JE o [] n/\∀n:Hp,o [] n->∀_:Fr,
CR e a 69 #[(pt m)] n λq r=>lL q j λq=>Br q (CR e a 69 #[(pt m)] r λq s=>lS j q λq=>CR e a 69 #[(pt m)] s λs t=>aZ Tryz.prog a (bM Tryz.f27 39 5) (ev (λu=>cond (Nat.beq u 116) q (cond (Nat.beq u 117) s (cond (Nat.beq u 118) l (undef))))) t λl=>CR e a 70 #[(pt m)] t λq s=>aZ Tryz.prog a (bM Tryz.f27 40 2) (ev (λu=>cond (Nat.beq u 120) q (cond (Nat.beq u 121) l (undef)))) s λl=>CR e a 68 #[(pt m),l] s λ_ l=>az o p [] l [] n) (CR e a 70 #[(pt m)] r λl m=>rt e l m)) λl=>lG j (iv 8192) λm=>Br m (aN b λm=>ae .num .quo (iv 8192) m λm=>aN b λn=>oM m n λm=>lE m i0 λn=>Br n (aN b λn=>JE l [n] k) (JE l [m] k)) (JE l [j] k)) λk=>bP b i0 λl=>jB (λm n=>Br m (jB (λm o=>Br m (aZ Tryz.prog a (bM Tryz.f27 21 1) (ev (λu=>cond (Nat.beq u 56) j (undef))) o λm=>rt e m o) (jB (λm p=>Br m (aZ Tryz.prog a (bM Tryz.f27 23 1) (ev (λu=>cond (Nat.beq u 65) j (undef))) p λm=>rt e m p) (jB (λm q=>Br m (aZ Tryz.prog a (bM Tryz.f27 25 1) (ev (λu=>cond (Nat.beq u 74) j (undef))) q λm=>rt e m q) (jB (λm r=>Br m (aZ Tryz.prog a (bM Tryz.f27 27 1) (ev (λu=>cond (Nat.beq u 83) j (undef))) r λm=>rt e m r) (jB (λm s=>Br m (aZ Tryz.prog a (bM Tryz.f27 29 1) (ev (λu=>cond (Nat.beq u 92) j (undef))) s λm=>rt e m s) (JE k [] s)) λm=>oQ j (iv 64) λs=>Split s true (CR e a 66 #[(.string (ByteArray.mk #[9,9,9,9,9,9,9,9,9,9,9,9,9,9,9,9,9,9,9,9,9,9,9,9,9,9,9,9,9,9,9,9,9,9,9,9,9,9,9,9,9,9,9,9,9,9,9,9,9,9,9,9,9,9,9,9,9,9,9,9,9,9,9,9])),b] r λs t=>aI vT s vF λs=>JE m [s] t) (aI vF undef vF λs=>JE m [s] r))) λm=>oQ j (iv 128) λr=>Split r true (CR e a 66 #[(.string (ByteArray.mk #[61,61,61,61,61,61,61,61,61,61,61,61,61,61,61,61,61,61,61,61,61,61,61,61,61,61,61,61,61,61,61,61,61,61,61,61,61,61,61,61,61,61,61,61,61,61,61,61,61,61,61,61,61,61,61,61,61,61,61,61,61,61,61,61,61,61,61,61,61,61,61,61,61,61,61,61,61,61,61,61,61,61,61,61,61,61,61,61,61,61,61,61,61,61,61,61,61,61,61,61,61,61,61,61,61,61,61,61,61,61,61,61,61,61,61,61,61,61,61,61,61,61,61,61,61,61,61,61])),b] q λr s=>aI vT r vF λr=>JE m [r] s) (aI vF undef vF λr=>JE m [r] q))) λm=>oQ j (iv 64) λq=>Split q true (CR e a 66 #[(.string (ByteArray.mk #[48,48,48,48,48,48,48,48,48,48,48,48,48,48,48,48,48,48,48,48,48,48,48,48,48,48,48,48,48,48,48,48,48,48,48,48,48,48,48,48,48,48,48,48,48,48,48,48,48,48,48,48,48,48,48,48,48,48,48,48,48,48,48,48])),b] p λq r=>aI vT q vF λq=>JE m [q] r) (aI vF undef vF λq=>JE m [q] p))) λm=>oQ j (iv 128) λp=>Split p true (CR e a 66 #[(.string (ByteArray.mk #[45,45,45,45,45,45,45,45,45,45,45,45,45,45,45,45,45,45,45,45,45,45,45,45,45,45,45,45,45,45,45,45,45,45,45,45,45,45,45,45,45,45,45,45,45,45,45,45,45,45,45,45,45,45,45,45,45,45,45,45,45,45,45,45,45,45,45,45,45,45,45,45,45,45,45,45,45,45,45,45,45,45,45,45,45,45,45,45,45,45,45,45,45,45,45,45,45,45,45,45,45,45,45,45,45,45,45,45,45,45,45,45,45,45,45,45,45,45,45,45,45,45,45,45,45,45,45,45])),b] o λp q=>aI vT p vF λp=>JE m [p] q) (aI vF undef vF λp=>JE m [p] o))) λm=>oQ j (iv 128) λj=>Split j true (CR e a 66 #[(.string (ByteArray.mk #[32,32,32,32,32,32,32,32,32,32,32,32,32,32,32,32,32,32,32,32,32,32,32,32,32,32,32,32,32,32,32,32,32,32,32,32,32,32,32,32,32,32,32,32,32,32,32,32,32,32,32,32,32,32,32,32,32,32,32,32,32,32,32,32,32,32,32,32,32,32,32,32,32,32,32,32,32,32,32,32,32,32,32,32,32,32,32,32,32,32,32,32,32,32,32,32,32,32,32,32,32,32,32,32,32,32,32,32,32,32,32,32,32,32,32,32,32,32,32,32,32,32,32,32,32,32,32,32])),b] n λb j=>aI vT b vF λb=>JE m [b] j) (aI vF undef vF λb=>JE m [b] n)) (JE k [] n)) λb=>lE l (bi 32) λj=>Br j (JE b [j] i) (lE l (bi 45) λj=>Br j (JE b [j] i) (lE l (bi 48) λj=>Br j (JE b [j] i) (lE l (bi 61) λj=>Br j (JE b [j] i) (lE l (bi 9) λj=>JE b [j] i)))))) λb=>lG f (wi 0) λf=>lO f (λf=>lG h (wi 9223372036854775807) λh=>(lV g h f)) λf=>Br (Value.bool f) (cU Tryz.prog a (bM Tryz.f27 10 1) (ev (λu=>cond (Nat.beq u 35) (.iface 9 (.string (ByteArray.mk #[115,116,114,105,110,103,115,58,32,82,101,112,101,97,116,32,111,117,116,112,117,116,32,108,101,110,103,116,104,32,111,118,101,114,102,108,111,119]))) (undef))) g (λ_ f=>JE b [] f) (cv e)) (JE b [] g)) λb=>lL c i0 λc=>Br c (cU Tryz.prog a (bM Tryz.f27 7 1) (ev (λu=>cond (Nat.beq u 19) (.iface 9 (.string (ByteArray.mk #[115,116,114,105,110,103,115,58,32,110,101,103,97,116,105,118,101,32,82,101,112,101,97,116,32,99,111,117,110,116]))) (undef))) d (λ_ a=>JE b [] a) (cv e)) (JE b [] d)))
theorem MY:qC L27 27:=λh=>sd (zA (zA (.h 1 [] [0,1] .e (zA (.h 1 [] [0,6] (zB (zF 0 [] [1])) (zA (zA (.h 1 [] [0,7] (zA (zB (.h 1 [43] [0,7] .e (zB (zB (.h 1 [49] [0,7] .e (zA (.h 1 [58] [0,7] .e (zA (.h 1 [67] [0,7] .e (zA (.h 1 [76] [0,7] .e (zA (zF 1 [85] [0,7])))))))))))))) (zA (.h 1 [8] [0,7] .e (hN 3 (zB (zB (zF 0 [] [7,8,9])))))))))))))) func27 h
def L28:Y1:=λ_ a b c=>aN a λd=>lL d i1 λd=>lO d (λd=>aN a λe=>lG e (iv 18) λe=>(lV b e d)) λd=>Br (Value.bool d) (rt c (tP i0 vF) b) (aN a λd=>yB [i0,i0] b λb e f g h=>lL g d λd=>Br d (bP a g λd=>lL d (bi 48) λd=>lO d (λd=>bP a g λi=>lG i (bi 57) λi=>(lV h i d)) λd=>Br (Value.bool d) (rt c (tP i0 vF) h) (oM (iv 10) f λd=>bP a g λa=>lS a (bi 48) λa=>aH .i64 a λa=>lA d a λa=>lA g i1 λd=>az b e [a,d] h [f,g] h)) (rt c (tP f vT) h))
theorem MX:qB L28 28:=λh=>sd (zA (.n (zB (zF 0 [] [1])) (zA (zB (zA (zB (zE 0 [4,16] [0,15] (zA (zA (zB (zB (zA (zB (zB (zF 0 [] [1]))))))))))))))) func28 h
def L29:Y1:=λ_ a b c=>aN a λd=>yA [i0] b λb e f g=>lL f d λd=>Br d (bP a f λd=>lL d (bi 97) λd=>lO d (λd=>bP a f λh=>lG h (bi 122) λh=>(lV g h d)) λd=>Br (Value.bool d) (rt c vF g) (lA f i1 λd=>az b e [d] g [f] g)) (aN a λb=>oG b i1 λb=>lU b (λb=>aN a λa=>oQ a (iv 16) λa=>(lV g a b)) λb=>rt c (Value.bool b) g)
theorem MW:qB L29 29:=λh=>sd (zA (.n (zA (zB (zE 0 [6] [0,5] (zA (zA (zB (zB (zA (zB (zF 0 [] [1])))))))))) (zB (zF 0 [] [1])))) func29 h
def L30:Y2:=λa b c d e=>oP b λf=>Br f (rt e (.tuple #[(ui 0),i0,(iv 10)]) d) (CR e a 71 #[b] d λd f=>CR e a 19 #[c,d] f λc d=>lX c λf g=>Ext 2 c λc=>lN c i0 λh=>Br h (rt e (.tuple #[(ui 0),g,c]) d) (CR e a 72 #[b,f] d λa b=>lX a λa c=>rt e (.tuple #[a,i0,c]) b))
theorem MV:qC L30 30:=λh=>sd .e func30 h
def L31:Y4:=λa b c d e f g=>lW f #[(.string (ByteArray.mk #[])),i0,i0] 26 λf h=>lN e i0 λi=>Br i (CR g a 12 #[i0,e] h λe i=>St 3 i (pt f) e λe=>ax 3 e (pt f) λi=>rt g i e) (CR g a 73 #[b,c,d] h λa b=>St 3 b (pt f) a λa=>ax 3 a (pt f) λb=>rt g b a)
theorem yO:qE L31 31:=λh=>sd .e func31 h
def L33:Y1:=λa b c d=>cU Tryz.prog a (bM Tryz.f33 3 1) (ev (λe=>cond (Nat.beq e 13) b (undef))) c (λc f=>yB [sZ,i0] f λf g h i j=>cU Tryz.prog a (bM Tryz.f33 4 0) (ev (λe=>cond (Nat.beq e 14) c (undef))) j (λc k=>Ext 0 c λl=>Br l (Ext 1 c λl=>Ext 2 c λc=>lL l i λm=>lO m (λm=>lE c (Value.int .i32 32) λn=>(lV k n m)) λm=>Br (Value.bool m) (az f g [h,i] k [h,i] j) (Build Tryz.prog 140 [(0,(iv 16)),(1,l),(2,i0)] λm=>lQ 3 k #[i0,i0,i0] 140 m λm n=>jB (λo p=>CR d a 75 #[] p λp q=>aE p λr=>yB [o,i0] q λo q s t u=>lL t r λr=>Br r (jB (λr v=>lA t i1 λw=>az o q [r,w] v [s,t] u) λo=>ah 2 p t λp=>ax 2 u p λp=>lQ 2 u #[(.string (ByteArray.mk #[])),i0] 145 p λp q=>jB (λr t=>Br r (DR t λr=>lD 1 (pt p) r λv=>Build Tryz.prog 140 [(0,v),(1,l),(2,i0)] λv=>lD 0 (pt p) r λw=>aN w λw=>St 3 t (pt m) v λv=>aF v r/\
JE o [w] v) (JE o [s] t)) λo=>DR q λr=>lE s i0 λt=>Br t (aZ Tryz.prog a (bM Tryz.f33 15 5) (ev (λe=>cond (Nat.beq e 54) b (cond (Nat.beq e 55) l (undef)))) r λt=>lD 0 (pt p) r λp=>∀r:Hp,
CN (a.add r) 66 #[t,p] q λp r=>aI vT p vF λp=>JE o [p] r) (JE o [vF] q)) (ax 3 u (pt m) λo=>aj Tryz.prog 89 1 [(0,o)] u λo p=>App Tryz.prog 140 3 24 (.agg #[i0,i0,i0]) p h o λo p=>lD 0 (pt m) p λq=>lE q (iv 16) λq=>Br q (rt d o p) (lA l s λq=>az f g [o,q] p [h,i] j))) λf=>lE c (Value.int .i32 120) λc=>Br c (lA l i1 λc=>aZ Tryz.prog a (bM Tryz.f33 9 3) (ev (λe=>cond (Nat.beq e 31) b (cond (Nat.beq e 33) c (undef)))) n λc=>CR d a 74 #[c] n λa c=>lX a λa e=>lG e i0 λg=>Br g (Build Tryz.prog 140 [(0,(iv 3)),(1,l),(2,a)] λa=>lA i1 e λe=>St 3 c (pt m) a λa=>JE f [e] a) (JE f [i0] c)) (JE f [i0] n))) (aN b λa=>Build Tryz.prog 140 [(0,i0),(1,a),(2,i0)] λa=>aj Tryz.prog 89 1 [(0,a)] k λa b=>App Tryz.prog 140 3 24 (.agg #[i0,i0,i0]) b h a λa b=>rt d a b)) (cv d)) (cv d)
theorem MU:qB L33 33:=λh=>sd (hN 3 (zB (zA (zB (zE 0 [3,4] [0,14] (zA (zA (zB (zA (.n (zB (zF 0 [] [1])) (zA (.h 1 [8] [0,3,5,7,14] .e (zB (zA (zB (zE 0 [8,47] [0,3,5,7,14,45,46] (zA (zA (zE 1 [8] [0,3,5,7,14,45,46,47] (zB (zA (.h 1 [60] [0,3,5,7,8,12,14,45,46,47] (zE 1 [] [] (hr 0 [] 0 2 (.h 2 [2] [] (hr 0 [] 3 7 .e) (hr 0 [] 3 6 (zF 3 [9] []))))) (zB (zF 0 (yR 9) [])))))))))))))))))))))))) func33 h
def L34:Y3:=λa b c d e f=>lE c (iv 5) λg=>Br g (CR f a 76 #[b,d] e λg h=>rt f g h) (CR f a 77 #[c] e λe g=>lA c i1 λh=>CR f a 34 #[b,h,d] g λg h=>yA [g] h λg h i j=>CR f a 78 #[b] j λk l=>wx 0 k λk=>lE k e λk=>Br k (CR f a 79 #[b] l λ_ k=>lE e (iv 8) λm=>Br m (CR f a 34 #[b,c,d] k λm n=>aj Tryz.prog 97 2 [(0,i),(1,m)] n λm n=>Build Tryz.prog 99 [(0,(iv 8)),(2,m)] λm=>lK n m 99 λm n=>rt f (pt m) n) (lA c i1 λc=>CR f a 34 #[b,c,d] k λa b=>aj Tryz.prog 97 2 [(0,i),(1,a)] b λa b=>Build Tryz.prog 99 [(0,e),(2,a)] λa=>lK b a 99 λa b=>az g h [(pt a)] b [i] j)) (rt f i l))
theorem MT:qD L34 34:=λh=>sd (hN 4 (zB (zB (zF 0 [8] [0,1,2,7])))) func34 h
def L35:Y2:=λa b c d e=>CR e a 79 #[b] d λb d=>lQ 3 d #[i0,i0,i0] 140 b λb d=>lD 0 (pt b) d λf=>lN f c λc=>Br c (ax 3 d (pt b) λb=>CR e a 80 #[b,(iv 14)] d λ_ a=>rt e (.tuple #[]) a) (rt e (.tuple #[]) d)
theorem MS:qC L35 35:=λh=>sd .e func35 h
def L36:Y2:=λa b c d e=>lK d c 4 λc d=>lW d #[i0,sZ] 30 λd f=>CR e a 81 #[b] f λf g=>lN f i0 λh=>Br h (Build Tryz.prog 30 [] λh=>St 2 g (pt d) h λh=>ax 2 h (pt d) λi=>rt e (tP i f) h) (CR e a 82 #[b,(.func (.func 83) #[] #[(pt c)])] g λa b=>St 2 b (pt d) a λa=>ax 2 a (pt d) λb=>rt e (tP b i0) a)
theorem MR:qC L36 36:=λh=>sd .e func36 h
def L37:Y2:=λa b c d e=>lK d c 3 λc d=>lW d #[i0,sZ] 30 λd f=>CR e a 81 #[b] f λf g=>lN f i0 λh=>Br h (Build Tryz.prog 30 [] λh=>St 2 g (pt d) h λh=>ax 2 h (pt d) λi=>rt e (tP i f) h) (Ld g (pt c) λf=>lL f i0 λf=>lO f (λf=>Ld g (pt c) λh=>oG h b λh=>(lV g h f)) λf=>Br (Value.bool f) (Build Tryz.prog 30 [] λf=>St 2 g (pt d) f λf=>ax 2 f (pt d) λh=>rt e (tP h (iv 2)) f) (CR e a 82 #[b,(.func (.func 84) #[] #[(pt c)])] g λa b=>St 2 b (pt d) a λa=>ax 2 a (pt d) λb=>rt e (tP b i0) a))
theorem MQ:qC L37 37:=λh=>sd (zA (zA (zB (zB (zF 0 [] [1]))))) func37 h
def L38:Y1:=λa b c d=>lK c b 30 λb c=>lW c #[i0,sZ] 30 λc e=>ax 2 e (pt b) λf=>aj Tryz.prog 96 1 [(0,f)] e λe f=>CR d a 21 #[e] f λe f=>Un .not e λe=>Br e (Build Tryz.prog 30 [] λe=>St 2 f (pt c) e λe=>ax 2 e (pt c) λg=>rt d (tP g (iv 5)) e) (lD 0 (pt b) f λe=>CR d a 82 #[e,(.func (.func 86) #[] #[(pt b)])] f λa b=>St 2 b (pt c) a λa=>ax 2 a (pt c) λb=>rt d (tP b i0) a)
theorem MP:qB L38 38:=λh=>sd .e func38 h
def L39:Y3:=λa b c d e f=>lK e b 5 λb e=>lK e c 30 λc e=>lK e d 30 λd e=>lW e #[i0,sZ] 30 λe g=>Ld g (pt b) λh=>lG h (bi 15) λh=>Br h (Build Tryz.prog 30 [] λh=>St 2 g (pt e) h λh=>ax 2 h (pt e) λi=>rt f (tP i i1) h) (ax 2 g (pt c) λh=>ax 2 g (pt d) λi=>aj Tryz.prog 96 2 [(0,h),(1,i)] g λg h=>CR f a 21 #[g] h λg h=>Un .not g λg=>Br g (Build Tryz.prog 30 [] λg=>St 2 h (pt e) g λg=>ax 2 g (pt e) λi=>rt f (tP i (iv 5)) g) (lD 0 (pt c) h λg=>CR f a 82 #[g,(.func (.func 87) #[] #[(pt c),(pt d),(pt b)])] h λa b=>St 2 b (pt e) a λa=>ax 2 a (pt e) λb=>rt f (tP b i0) a))
theorem MO:qD L39 39:=λh=>sd .e func39 h
variable {g:Gh} {a0 a1 a2 a3 a4 a5 a6 a7 a8 a9 sK sJ ZF ZE ZD ZC:zV} {H:Hp} {R:Rt}
def L40:Y3:=λa b c d e f=>lK e b 30 λb e=>lK e c 30 λc e=>lK e d 30 λd e=>lW e #[i0,sZ] 30 λe g=>ax 2 g (pt b) λh=>ax 2 g (pt c) λi=>ax 2 g (pt d) λj=>aj zQ 96 3 [(0,h),(1,i),(2,j)] g λg h=>CR f a 21 #[g] h λg h=>Un .not g λg=>Br g (Build zQ 30 [] λg=>St 2 h (pt e) g λg=>ax 2 g (pt e) λi=>rt f (tP i (iv 5)) g) (lD 0 (pt b) h λg=>CR f a 82 #[g,(.func (.func 88) #[] #[(pt b),(pt c),(pt d)])] h λa b=>St 2 b (pt e) a λa=>ax 2 a (pt e) λb=>rt f (tP b i0) a)
theorem MN:qD L40 40:=λh=>sd .e func40 h
def L41:Y1:=λa b c d=>lK c b 30 λb c=>jB (λe f=>Br e (rt d vF f) (DR f λe=>lD 1 (pt b) e λg=>lD 1 (pt b) e λh=>aE h λh=>lS h i1 λh=>lI 1 g h e λg=>lD 0 (pt b) e λh=>CN a 90 #[h] f λf h=>aF h e/\
ae .num .andNot g f λe=>lE e (wi 0) λe=>rt d e h)) λd=>DR c λe=>lD 0 (pt b) e λf=>lL f i0 λf=>Br f (JE d [vT] c) (lD 0 (pt b) e λf=>lG f (iv 16) λf=>aI vF vT f λf=>Br f (JE d [vT] c) (lD 1 (pt b) e λf=>aE f λf=>lD 0 (pt b) e λb=>∀g:Hp,
CN (a.add g) 89 #[b] c λa b=>aF b e/\
lN f a λa=>aI vF vT a λa=>JE d [a] b))
theorem MM:qB L41 41:=λh=>sd (zA (.n (zE 1 [19] [1] (zE 1 [] [] (hr 0 [] 0 3 (.h 2 [3] [] (hr 0 [] 4 3 (hr 3 [] 7 2 (hr 0 [] 9 7 (zF 3 [16] [])))) (hr 0 [] 4 4 (.h 2 [8] [] (hr 0 [] 9 7 (zF 3 [16] [])) (hr 0 [] 9 8 .e))))))) (zB (zF 0 (yR 14) [])))) func41 h
def L42:Y1:=λa b c d=>lL b i0 λe=>lO e (λe=>lG b (iv 64) λf=>(lV c f e)) λe=>Br (Value.bool e) (rt d (tP sZ i1) c) (CR d a 91 #[b] c λa b=>rt d (tP a i0) b)
theorem ML:qB L42 42:=λh=>sd (zA (zB (zB (zF 0 [] [1])))) func42 h
def L43:Y1:=λ_ a b c=>lL a i1 λd=>lO d (λd=>lG a (iv 64) λe=>(lV b e d)) λd=>Br (Value.bool d) (rt c (tP (.pointer none) i1) b) (df 159 1 8 (.map none) b a a λb d=>Build zQ 158 [(0,b)] λb=>lK d b 158 λb d=>yA [i0] d λd e f g=>lL f a λa=>Br a (lM 0 (pt b) g λa=>kH g λh i=>ah 1 a f λa=>St 1 i a h λa=>lA f i1 λh=>az d e [h] a [f] g) (rt c (tP (pt b) i0) g))
theorem MK:qB L43 43:=λh=>sd (zA (.n (zB (zF 0 [] [1])) (zA (zB (zA (zB (zF 0 [17] [4,16]))))))) func43 h
def L44:Y2:=λa b c d e=>lW d #[(.pointer none),(.pointer none),sZ,sZ] 117 λd f=>CR e a 92 #[b] f λa b=>lX a λa f=>Build zQ 117 [(0,a),(1,c)] λa=>St 4 b (pt d) a λa=>ax 4 a (pt d) λb=>rt e (tP b f) a
theorem MJ:qC L44 44:=λh=>sd .e func44 h
def L45:Y1:=λ_ a b c=>ae .slice .eql a sZ λd=>Br d (rt c sZ b) (aj zQ 108 0 [] b λb d=>App zQ 3 1 8 i0 d b a λa b=>rt c a b)
theorem MI:qB L45 45:=λh=>sd .e func45 h
def L52:Y2:=λa b c d e=>lW d #[(.string (ByteArray.mk #[])),i0,i0] 26 λd f=>DR f λg=>lM 0 b g λh=>lM 1 b g λb=>ah 4 c i0 λc=>af 0 c λc=>af 0 c λc=>Ld g c λc=>jE (.string) (ui 0) false g b c λb=>CN a 100 #[h,b] f λb c=>aF c g/\
lX b λb f=>CN a 99 #[b,f] c λa b=>aF b g/\
St 3 b (pt d) a λa=>ax 3 a (pt d) λb=>rt e b a
theorem MH:qC L52 52:=λh=>sd (zA (zB (zF 0 (yR 19) []))) func52 h
def L53:Y2:=λa b c d e=>lW d #[(.string (ByteArray.mk #[])),i0,i0] 26 λd f=>DR f λg=>lM 0 b g λh=>lM 1 b g λb=>ah 4 c i0 λi=>af 0 i λi=>af 0 i λi=>Ld g i λi=>jE (.string) (ui 0) false g b i λb=>ah 4 c i1 λc=>af 3 c λc=>Ld g c λc=>aH .u64 c λc=>CN a 101 #[h,b,c] f λb c=>aF c g/\
lX b λb f=>CR e a 102 #[b] c λb c=>CR e a 99 #[b,f] c λa b=>St 3 b (pt d) a λa=>ax 3 a (pt d) λb=>rt e b a
theorem MG:qC L53 53:=λh=>sd (zA (zB (zF 0 (yR 25) []))) func53 h
def L54:Y2:=λa b c d e=>lW d #[(.string (ByteArray.mk #[])),i0,i0] 26 λd f=>DR f λg=>lM 0 b g λh=>lM 1 b g λb=>ah 4 c i0 λc=>af 0 c λc=>af 0 c λc=>Ld g c λc=>jE (.string) (ui 0) false g b c λb=>CN a 103 #[h,b] f λb c=>aF c g/\
lX b λb f=>CR e a 104 #[b] c λb c=>CR e a 99 #[b,f] c λa b=>St 3 b (pt d) a λa=>ax 3 a (pt d) λb=>rt e b a
theorem MF:qC L54 54:=λh=>sd (zA (zB (zF 0 (yR 20) []))) func54 h
def L60:Y2:=λa b c d e=>lW d #[(.string (ByteArray.mk #[])),i0,i0] 26 λd f=>ah 4 c i0 λc=>af 3 c λc=>Ld f c λc=>CR e a 112 #[b,(bi 1),c] f λa b=>St 3 b (pt d) a λa=>ax 3 a (pt d) λb=>rt e b a
theorem ME:qC L60 60:=λh=>sd .e func60 h
def L63:Y2:=λa b _ c d=>lW c #[(.string (ByteArray.mk #[])),i0,i0] 26 λc e=>CR d a 112 #[b,(bi 6),(iv 100)] e λa b=>St 3 b (pt c) a λa=>ax 3 a (pt c) λb=>rt d b a
theorem MD:qC L63 63:=λh=>sd .e func63 h
def L65:Y2:=λa b c d e=>Br vF (aH .u32 b λf=>aH .u32 c λg=>CR e a 115 #[f,g] d λf g=>lX f λf h=>aH .u64 f λf=>aH .u64 h λh=>rt e (tP f h) g) (CR e a 116 #[b,c] d λa b=>lX a λa c=>rt e (tP a c) b)
theorem MC:qC L65 65:=λh=>sd .e func65 h
def L66:Y2:=λa b c d e=>CR e a 117 #[b,c] d λa b=>rt e a b
theorem MB:qC L66 66:=λh=>sd .e func66 h
def L67:Y2:=λa b c d e=>CR e a 118 #[b] d λ_ d=>jA (λf=>lM 1 b f λg=>aZ zQ a (bM Tryz.f67 3 4) (ev (λh=>cond (Nat.beq h 12) g (undef))) f λg=>lM 1 b f λi=>aE i λi=>lS g i λg=>lL g c λg=>Br g (CR e a 119 #[b,c] f λ_ b=>rt e (.tuple #[]) b) (rt e (.tuple #[]) f)) λb=>lL c i0 λc=>Br c (cU zQ a (bM Tryz.f67 2 1) (ev (λh=>cond (Nat.beq h 8) (.iface 9 (.string (ByteArray.mk #[115,116,114,105,110,103,115,46,66,117,105,108,100,101,114,46,71,114,111,119,58,32,110,101,103,97,116,105,118,101,32,99,111,117,110,116]))) (undef))) d (λ_ a=>JE b [] a) (cv e)) (JE b [] d)
theorem MA:qC L67 67:=λh=>sd (zA (zF 1 [] [0,1])) func67 h
def L68:Y2:=λa b c d e=>CR e a 118 #[b] d λ_ d=>lM 1 b d λf=>cU zQ a (bM Tryz.f68 2 6) (ev (λa=>cond (Nat.beq a 12) f (cond (Nat.beq a 13) c (undef)))) d (λa d=>lC 1 b λb=>St 1 d b a λa=>aN c λb=>rt e (tP b .nilIface) a) (cv e)
theorem yN:qC L68 68:=λh=>sd .e func68 h
def L69:Y1:=λ_ a b c=>lM 1 a b λa=>aE a λa=>rt c a b
theorem yM:qB L69 69:=λh=>sd .e func69 h
def L70:Y1:=λa b c d=>DR c λe=>lM 1 b e λf=>lM 1 b e λb=>aE b λb=>cU zQ a (bM Tryz.f70 1 4) (ev (λg=>cond (Nat.beq g 6) f (undef))) c (λc f=>aF f e/\
cU zQ a (bM Tryz.f70 1 10) (ev (λg=>cond (Nat.beq g 7) c (cond (Nat.beq g 12) b (undef)))) f (λa b=>aF b e/\
rt d a b) gu) gu
theorem yL:qB L70 70:=λh=>sd (zA (zB (zF 0 [0,1,2,3,5,6,7,8,9,4,10,11] []))) func70 h
def L71:Y1:=λ_ a b c=>oP a λd=>Br d (rt c i0 b) (lM 4 a b λa=>rt c a b)
theorem Mz:qB L71 71:=λh=>sd .e func71 h
def L72:Y2:=λa b c d e=>lK d b 41 λb d=>lW d #[sZ] 189 λd f=>lM 2 c f λg=>aE g λh=>yA [i0] f λf i j k=>lL j h λh=>Br h (lI 1 g j k λg=>Ld k (pt b) λh=>CF a 72 #[h,g] k (λg h=>lX g λg l=>lN l i0 λm=>Br m (kJ zQ a 120 #[(pt d),(pt b)] h λm=>rt e (tP (ui 0) l) m) (Ld h (pt d) λl=>aj zQ 189 1 [(0,g)] h λg h=>App zQ 80 1 4 (ui 0) h l g λg h=>St 1 h (pt d) g λg=>lA j i1 λh=>az f i [h] g [j] k)) NoP) (lM 0 c k λf=>jB (λg h=>Br g (DR h λg=>Ld g (pt b) λi=>lM 0 c g λj=>lE j (iv 2) λj=>CN a 121 #[i,j] h λi j=>aF j g/\
lX i λg i=>kJ zQ a 120 #[(pt d),(pt b)] j λj=>rt e (tP g i) j) (lE f (iv 3) λg=>Br g (DR h λg=>Ld g (pt b) λi=>lM 1 c g λc=>CN a 122 #[i,c] h λc i=>aF i g/\
lX c λc g=>kJ zQ a 120 #[(pt d),(pt b)] i λi=>rt e (tP c g) i) (lE f (iv 4) λc=>Br c (DR h λc=>Ld c (pt b) λg=>Ld c (pt d) λi=>lI 1 i i0 c λi=>CN a 97 #[g,i] h λg i=>aF i c/\
lX g λc g=>kJ zQ a 120 #[(pt d),(pt b)] i λi=>rt e (tP c g) i) (lE f (iv 5) λc=>Br c (DR h λc=>Ld c (pt b) λg=>Ld c (pt d) λi=>lI 1 i i0 c λi=>Ld c (pt d) λj=>lI 1 j i1 c λj=>CN a 94 #[g,i,j] h λg i=>aF i c/\
lX g λc g=>kJ zQ a 120 #[(pt d),(pt b)] i λi=>rt e (tP c g) i) (lE f (iv 6) λc=>Br c (DR h λc=>Ld c (pt b) λg=>Ld c (pt d) λi=>lI 1 i i0 c λi=>Ld c (pt d) λj=>lI 1 j i1 c λj=>CN a 96 #[g,i,j] h λg i=>aF i c/\
lX g λc g=>kJ zQ a 120 #[(pt d),(pt b)] i λi=>rt e (tP c g) i) (lE f (iv 7) λc=>Br c (DR h λc=>Ld c (pt b) λg=>Ld c (pt d) λi=>lI 1 i i0 c λi=>Ld c (pt d) λj=>lI 1 j i1 c λj=>CN a 95 #[g,i,j] h λg i=>aF i c/\
lX g λc g=>kJ zQ a 120 #[(pt d),(pt b)] i λi=>rt e (tP c g) i) (lE f (iv 8) λc=>Br c (DR h λc=>Ld c (pt b) λg=>Ld c (pt d) λi=>lI 1 i i0 c λi=>Ld c (pt d) λj=>lI 1 j i1 c λj=>CN a 123 #[g,(bi 11),i,j] h λg i=>aF i c/\
lX g λc g=>kJ zQ a 120 #[(pt d),(pt b)] i λi=>rt e (tP c g) i) (lE f (iv 9) λc=>Br c (DR h λc=>Ld c (pt b) λg=>Ld c (pt d) λi=>lI 1 i i0 c λi=>Ld c (pt d) λj=>lI 1 j i1 c λj=>CN a 123 #[g,(bi 9),i,j] h λg i=>aF i c/\
lX g λc g=>kJ zQ a 120 #[(pt d),(pt b)] i λi=>rt e (tP c g) i) (DR h λc=>Ld c (pt b) λg=>Ld c (pt d) λi=>lI 1 i i0 c λi=>Ld c (pt d) λj=>lI 1 j i1 c λj=>Ld c (pt d) λl=>lI 1 l (iv 2) c λl=>CN a 124 #[g,i,j,l] h λg h=>aF h c/\
lX g λc g=>kJ zQ a 120 #[(pt d),(pt b)] h λa=>rt e (tP c g) a))))))))) λa=>lE f i1 λb=>Br b (JE a [b] k) (lE f (iv 2) λb=>JE a [b] k))
theorem My(h:L72 g a0 a1 H R):sc g 72 #[a0,a1] H R:=
 DO (hn:=(hN 3 (.n (zA (zB (zF 0 [17] [1,2,6,15,16]))) (.n (zA (zB (.h 1 [39] [1,2,6,38] .e (.n (zB (zF 0 (yR 11) [])) (zA (.n (zB (zF 0 (yR 10) [])) (zA (.n (zB (zF 0 (yR 9) [])) (zA (.n (zB (zF 0 (yR 12) [])) (zA (.n (zB (zF 0 (yR 12) [])) (zA (.n (zB (zF 0 (yR 12) [])) (zA (.n (zB (zF 0 (yR 12) [])) (zA (zB (zB (zF 0 (yR 12) [])))))))))))))))))))) (zB (zF 0 (yR 15) [])))))) func72 h zK
def L73:Y3:=λa b c d e f=>lW e #[(.string (ByteArray.mk #[])),i0,i0] 26 λe g=>jA (λh=>lM 1 b h λi=>dJ (.string) h i c d λh=>lM 0 b h λi=>aj zQ 189 1 [(0,d)] h λd h=>CR f a 125 #[i,d] h λd h=>lX d λd i=>CR f a 106 #[d] h λd h=>CR f a 99 #[d,i] h λd h=>St 3 h (pt e) d λd=>ax 3 d (pt e) λe=>rt f e d) λd=>lM 1 b g λe=>jE (.string) (ui 0) true g e c λc=>lX c λc e=>Br e (lM 0 b g λb=>CR f a 98 #[b,c] g λ_ a=>JE d [] a) (JE d [] g)
theorem Mx:qD L73 73:=λh=>sd (zA (zF 1 [] [0,1,2,6])) func73 h
def L74:Y1:=λa b c d=>jC (λe f g=>rt d (tP e f) g) λe=>cU zQ a (bM Tryz.f74 2 1) (ev (λf=>cond (Nat.beq f 8) b (undef))) c (λb c=>yB [i0,i0] c λc g h i j=>cU zQ a (bM Tryz.f74 3 0) (ev (λf=>cond (Nat.beq f 9) b (undef))) j (λa b=>Ext 0 a λf=>Br f (Ext 2 a λa=>lL a (Value.int .i32 48) λf=>lO f (λf=>lG a (Value.int .i32 57) λk=>(lV b k f)) λf=>lO (Value.bool f) (λf=>lE i i1 λk=>cz k true (λk=>lE h i0 λl=>(lV b l k)) (λk=>vF=Value.bool k) λk=>∀_:Fr,
(lV b (Value.bool k) f)) λf=>Br (Value.bool f) (JE e [h,i] b) (oM (iv 10) h λf=>lS a (Value.int .i32 48) λa=>aH .i64 a λa=>lA f a λa=>LY a (iv 1048576) λa=>lA i i1 λf=>az c g [a,f] b [h,i] j)) (JE e [h,i] b)) (cv d)) (cv d)
theorem Mw:qB L74 74:=λh=>sd (zA (zA (zE 1 [4,5] [] (zA (zB (zE 0 [4,5] [9] (zA (zA (zB (zA (zB (zB (zF 0 [] [1]))))))))))))) func74 h
def L75:Y0:=λ_ a b=>Build zQ 145 [(0,(.string (ByteArray.mk #[60,45,62]))),(1,(iv 9))] λc=>Build zQ 145 [(0,(.string (ByteArray.mk #[45,62]))),(1,(iv 8))] λd=>Build zQ 145 [(0,(.string (ByteArray.mk #[48]))),(1,i1)] λe=>Build zQ 145 [(0,(.string (ByteArray.mk #[49]))),(1,(iv 2))] λf=>Build zQ 145 [(0,(.string (ByteArray.mk #[33]))),(1,(iv 4))] λg=>Build zQ 145 [(0,(.string (ByteArray.mk #[38]))),(1,(iv 5))] λh=>Build zQ 145 [(0,(.string (ByteArray.mk #[94]))),(1,(iv 6))] λi=>Build zQ 145 [(0,(.string (ByteArray.mk #[124]))),(1,(iv 7))] λj=>Build zQ 145 [(0,(.string (ByteArray.mk #[40]))),(1,(iv 10))] λk=>Build zQ 145 [(0,(.string (ByteArray.mk #[41]))),(1,(iv 11))] λl=>Build zQ 145 [(0,(.string (ByteArray.mk #[91]))),(1,(iv 12))] λm=>Build zQ 145 [(0,(.string (ByteArray.mk #[63]))),(1,(iv 13))] λn=>Build zQ 145 [(0,(.string (ByteArray.mk #[58]))),(1,(iv 14))] λo=>Build zQ 145 [(0,(.string (ByteArray.mk #[93]))),(1,(iv 15))] λp=>aj zQ 143 14 [(0,c),(1,d),(2,e),(3,f),(4,g),(5,h),(6,i),(7,j),(8,k),(9,l),(10,m),(11,n),(12,o),(13,p)] a λa c=>rt b a c
theorem Mv:qA L75 75:=λh=>sd .e func75 h
def L76:Y2:=λa b c d e=>CR e a 79 #[b] d λd f=>lQ 3 f #[i0,i0,i0] 140 d λd f=>lD 0 (pt d) f λg=>jB (λh i=>Br h (lD 0 (pt d) i λh=>Build zQ 99 [(0,h)] λh=>lK i h 99 λh j=>rt e (pt h) j) (lE g (iv 3) λh=>Br h (jA (λh=>lD 2 (pt d) h λj=>Build zQ 99 [(0,(iv 3)),(1,j)] λj=>lK h j 99 λh j=>rt e (pt h) j) λh=>lD 2 (pt d) i λj=>lM 1 b i λk=>oG j k λj=>Br j (ax 3 i (pt d) λj=>CR e a 80 #[j,(iv 2)] i λ_ j=>JE h [] j) (JE h [] i)) (lE g (iv 4) λh=>Br h (ax 3 i (pt d) λh=>CR e a 126 #[h,c] i λh j=>CR e a 76 #[b,h] j λh j=>aj zQ 97 1 [(0,h)] j λh j=>Build zQ 99 [(0,(iv 4)),(2,h)] λh=>lK j h 99 λh j=>rt e (pt h) j) (lE g (iv 10) λh=>Br h (ax 3 i (pt d) λh=>CR e a 126 #[h,c] i λh j=>CR e a 34 #[b,i0,h] j λh j=>CR e a 35 #[b,(iv 11)] j λ_ j=>rt e h j) (lE g (iv 12) λh=>Br h (ax 3 i (pt d) λh=>CR e a 126 #[h,c] i λc h=>CR e a 34 #[b,i0,c] h λh j=>CR e a 35 #[b,(iv 13)] j λ_ j=>CR e a 34 #[b,i0,c] j λj k=>CR e a 35 #[b,(iv 14)] k λ_ k=>CR e a 34 #[b,i0,c] k λc k=>CR e a 35 #[b,(iv 15)] k λ_ b=>aj zQ 97 3 [(0,h),(1,j),(2,c)] b λb c=>Build zQ 99 [(0,(iv 12)),(2,b)] λb=>lK c b 99 λb c=>rt e (pt b) c) (ax 3 i (pt d) λb=>CR e a 80 #[b,(iv 14)] i λ_ a=>rt e (.pointer none) a)))))) λa=>lE g i1 λb=>Br b (JE a [b] f) (lE g (iv 2) λb=>JE a [b] f)
theorem Mu:qC L76 76:=λh=>sd (zA (zA (zB (zA (zB (.h 1 [14] [0,1,5,13] .e (zA (zA (zB (zF 1 [] [5])))))))))) func76 h
def L77:Y1:=λ_ a b c=>aj zQ 196 5 [(0,(iv 9)),(1,(iv 8)),(2,(iv 7)),(3,(iv 6)),(4,(iv 5))] b λb d=>lI 1 b a d λa=>rt c a d
theorem Ms:qB L77 77:=λh=>sd .e func77 h
def L78:Y1:=λ_ a b c=>lW b #[i0,i0,i0] 140 λb d=>lM 0 a d λa=>ah 3 a i0 λa=>ax 3 d a λa=>St 3 d (pt b) a λa=>ax 3 a (pt b) λb=>rt c b a
theorem Mr:qB L78 78:=λh=>sd .e func78 h
def L79:Y1:=λ_ a b c=>lW b #[i0,i0,i0] 140 λb d=>lM 0 a d λe=>ah 3 e i0 λe=>ax 3 d e λe=>lQ 3 d #[i0,i0,i0] 140 e λd e=>lM 0 a e λf=>cP 3 f (some i1) none λf=>lC 0 a λa=>St 1 e a f λa=>ax 3 a (pt d) λd=>St 3 a (pt b) d λa=>ax 3 a (pt b) λb=>rt c b a
theorem Mq:qB L79 79:=λh=>sd .e func79 h
def L80:Y2:=λa b c d e=>lK d b 140 λb d=>lD 1 (pt b) d λb=>Build zQ 86 [(0,b),(1,c)] λb=>cU zQ a (bM Tryz.f80 1 5) (ev (λa=>cond (Nat.beq a 8) (.iface 86 b) (undef))) d (λ_ a=>rt e (.tuple #[]) a) (cv e)
theorem Mp:qC L80 80:=λh=>sd .e func80 h
def L81:Y1:=λ_ a b c=>lL a i0 λd=>Br d (rt c i1 b) (lG a (iv 16) λa=>Br a (rt c (iv 6) b) (rt c i0 b))
theorem Mo:qB L81 81:=λh=>sd .e func81 h
def L82:Y2:=λa b c d e=>lW d #[i0,sZ] 30 λd f=>CR e a 89 #[b] f λf g=>df 33 1 8 (wi 0) g f f λf g=>Build zQ 30 [(0,b),(1,f)] λf=>lQ 2 g #[i0,sZ] 30 f λf g=>lD 1 (pt f) g λh=>aE h λh=>yA [i0] g λg i j k=>lL j h λh=>Br h (DR k λh=>lD 1 (pt f) h λl=>bK zQ a c #[j] k (λc m=>aF m h/\
CN a 90 #[b] m λa b=>aF b h/\
oA c a λa=>ah 1 l j λc=>St 1 b c a λa=>lA j i1 λb=>az g i [b] a [j] k) gu) (ax 2 k (pt f) λa=>St 2 k (pt d) a λa=>ax 2 a (pt d) λb=>rt e b a)
theorem Mn:qC L82 82:=λh=>sd (zA (zA (zB (zA (zB (zE 0 [15] [0,1,4,5,14] (zA (zA (zB (zB (zA (zF 0 [0,1,2,3,4,6,5,7,8,9,10] [])))))))))))) func82 h
def L83:Y2:=λ_ _ a b c=>Ld b a λa=>Br a (rt c (wi 18446744073709551615) b) (rt c (wi 0) b)
theorem Mm:qC L83 83:=λh=>sd .e func83 h
def L84:Y2:=λa b c d e=>Ld d c λc=>CR e a 85 #[c,b] d λa b=>rt e a b
theorem Ml:qC L84 84:=λh=>sd .e func84 h
def L85:Y2:=λ_ a b c d=>oG a (iv 6) λe=>Br e (aH .u64 b λb=>lS a (iv 6) λe=>oR b e λb=>oA b (wi 1) λb=>Un .neg b λb=>rt d b c) (yB [(wi 0),i0] c λb c e f g=>lL f (iv 64) λh=>Br h (oR f a λa=>oA a i1 λa=>aH .u64 a λa=>oL a f λa=>oO e a λa=>lA f i1 λh=>az b c [a,h] g [e,f] g) (rt d e g))
theorem Mj:qC L85 85:=λh=>sd (hN 3 (zB (zA (zB (zF 0 [5,16] [0]))))) func85 h
def L86:Y2:=λ_ a b c d=>af 1 b λb=>Ld c b λb=>lI 1 b a c λa=>Un .xor a λa=>rt d a c
theorem Mi:qC L86 86:=λh=>sd .e func86 h
def L87:Y4:=λ_ a b c d e f=>af 1 b λb=>Ld e b λb=>lI 1 b a e λb=>af 1 c λc=>Ld e c λc=>lI 1 c a e λa=>Un .xor b λc=>Un .xor a λg=>oA c g λc=>Un .xor b λg=>oA g a λg=>Un .xor a λh=>oA b h λh=>oA b a λa=>aj zQ 28 4 [(0,c),(1,g),(2,h),(3,a)] e λa b=>aE a λc=>yB [(wi 0),i0] b λb e g h i=>lL h c λc=>Br c (jB (λc j=>lA h i1 λk=>az b e [c,k] j [g,h] i) λb=>lI 1 a h i λa=>Ld i d λc=>oR c h λc=>oA c (bi 1) λc=>lE c (bi 1) λc=>Br c (oO g a λa=>JE b [a] i) (JE b [g] i)) (rt f g i)
theorem Mh:qE L87 87:=λh=>sd (hN 3 (zB (zA (zB (zE 0 [8,39] [3,37,38] (zA (zA (zF 1 [8] [3,37,38,39])))))))) func87 h
def L88:Y4:=λ_ a b c d e f=>af 1 b λg=>Ld e g λg=>lI 1 g a e λg=>af 1 c λc=>Ld e c λc=>lI 1 c a e λc=>oA g c λc=>af 1 b λb=>Ld e b λb=>lI 1 b a e λb=>Un .xor b λb=>af 1 d λd=>Ld e d λd=>lI 1 d a e λa=>oA b a λa=>oO c a λa=>rt f a e
theorem Mg:qE L88 88:=λh=>sd .e func88 h
def L89:Y1:=λ_ a b c=>oL i1 a λa=>oR a (wi 6) λa=>YI i1 a λa=>rt c a b
theorem Mf:qB L89 89:=λh=>sd .e func89 h
def L90:Y1:=λ_ a b c=>oG a (iv 6) λd=>Br d (rt c (wi 18446744073709551615) b) (oL (wi 1) a λa=>oL (wi 1) a λa=>lS a (wi 1) λa=>rt c a b)
theorem Me:qB L90 90:=λh=>sd .e func90 h
def L91:Y1:=λ_ a b c=>df 3 1 8 i0 b a a λb d=>yA [i0] d λd e f g=>lL f a λa=>Br a (ah 1 b f λa=>St 1 g a f λa=>lA f i1 λh=>az d e [h] a [f] g) (rt c b g)
theorem Md:qB L91 91:=λh=>sd (zA (zA (zB (zA (zB (zF 0 [8] [3,7])))))) func91 h
def L92:Y1:=λ_ a b c=>lL a (iv 2) λd=>lO d (λd=>lG a (iv 1048576) λe=>(lV b e d)) λd=>Br (Value.bool d) (rt c (tP (.pointer none) i1) b) (Build zQ 199 [(0,a),(3,(iv 2))] λa=>lK b a 199 λa b=>yA [(ui 0)] b λb d e f=>lL e (ui 2) λg=>Br g (lM 1 (pt a) f λg=>Build zQ 201 [(0,(iv (-1))),(1,e),(2,e)] λh=>Build zQ 203 [(0,h),(1,vT),(2,(bi 255))] λh=>aj zQ 197 1 [(0,h)] f λh i=>App zQ 203 5 24 (.agg #[i0,(ui 0),(ui 0),vF,(bi 0)]) i g h λg h=>lC 1 (pt a) λi=>St 1 h i g λg=>lA e (ui 1) λh=>az b d [h] g [e] f) (rt c (tP (pt a) i0) f))
theorem Mc:qB L92 92:=λh=>sd (zA (.n (zB (zF 0 [] [1])) (zA (zB (zA (zB (zF 0 [15] [4]))))))) func92 h
def L94:Y3:=λa b c d e f=>CR f a 123 #[b,(bi 8),c,d] e λa b=>lX a λa c=>rt f (tP a c) b
theorem Mb:qD L94 94:=λh=>sd .e func94 h
def L95:Y3:=λa b c d e f=>CR f a 123 #[b,(bi 14),c,d] e λa b=>lX a λa c=>rt f (tP a c) b
theorem Ma:qD L95 95:=λh=>sd .e func95 h
def L96:Y3:=λa b c d e f=>CR f a 123 #[b,(bi 6),c,d] e λa b=>lX a λa c=>rt f (tP a c) b
theorem L1:qD L96 96:=λh=>sd .e func96 h
def L97:Y2:=λa b c d e=>CR e a 123 #[b,(bi 3),c,(ui 0)] d λa b=>lX a λa c=>rt e (tP a c) b
theorem L0:qC L97 97:=λh=>sd .e func97 h
def L98:Y2:=λa b c d e=>oP b λf=>Br f (rt e (iv 10) d) (jA (λf=>lC 7 b λg=>St 1 f g sZ λf=>rt e i0 f) λf=>lG c (ui 1) λg=>Br g (CR e a 127 #[b,c] d λg h=>lE g i0 λg=>Br g (rt e (iv 3) h) (lC 0 b λg=>af 3 g λg=>Ld h g λg=>lI 1 g c h λi=>lS i (Value.int .i32 1) λi=>ah 1 g c λg=>St 1 h g i λg=>lC 0 b λh=>af 3 h λh=>Ld g h λh=>lI 1 h c g λh=>lE h (Value.int .i32 0) λh=>Br h (lC 0 b λb=>CR e a 128 #[b,c] g λ_ a=>JE f [] a) (JE f [] g))) (JE f [] d))
theorem yK:qC L98 98:=λh=>sd (zA (zA (zF 1 [] [0]))) func98 h
def L99:Y2:=λa b c d e=>lW d #[(.string (ByteArray.mk #[])),i0,i0] 26 λd f=>lN c i0 λg=>Br g (CR e a 12 #[i0,c] f λa c=>St 3 c (pt d) a λa=>ax 3 a (pt d) λc=>rt e c a) (Build zQ 26 [(0,b)] λa=>St 3 f (pt d) a λa=>ax 3 a (pt d) λb=>rt e b a)
theorem LZ:qC L99 99:=λh=>sd .e func99 h
def L100:Y2:=λa b c d e=>lW d #[(.string (ByteArray.mk #[]))] 9 λd f=>lW f #[i0] 24 λf g=>oP b λh=>Br h (St 1 g (pt d) (.string (ByteArray.mk #[])) λh=>St 1 h (pt f) (iv 10) λh=>Ld h (pt d) λi=>Ld h (pt f) λj=>rt e (tP i j) h) (CF a 129 #[b,c] g (λg h=>lX g λg i=>lQ 3 h nC 201 g λ_ g=>lN i i0 λh=>Br h (St 1 g (pt d) (.string (ByteArray.mk #[])) λh=>St 1 h (pt f) i λh=>Ld h (pt d) λi=>Ld h (pt f) λj=>rt e (tP i j) h) (lW g #[(.pointer none),sZ] 128 λg h=>CF a 131 #[b,(pt g),c] h (λ_ b=>CF a 69 #[(pt g)] b (λb c=>lG b (iv 65536) λb=>Br b (St 1 c (pt d) (.string (ByteArray.mk #[])) λb=>St 1 b (pt f) (iv 13) λb=>jF zQ 130 a #[(pt d),(pt f)] .returning b λb=>Ld b (pt d) λh=>Ld b (pt f) λi=>rt e (tP h i) b) (CF a 70 #[(pt g)] c (λb c=>St 1 c (pt d) b λb=>St 1 b (pt f) i0 λb=>jF zQ 130 a #[(pt d),(pt f)] .returning b λb=>Ld b (pt d) λc=>Ld b (pt f) λg=>rt e (tP c g) b) (λb c=>∀_:Fr,jF zQ 130 a #[(pt d),(pt f)] (.panicking b) c λb=>Ld b (pt d) λc=>Ld b (pt f) λg=>rt e (tP c g) b))) (λb c=>∀_:Fr,jF zQ 130 a #[(pt d),(pt f)] (.panicking b) c λb=>Ld b (pt d) λc=>Ld b (pt f) λg=>rt e (tP c g) b)) (λb c=>∀_:Fr,jF zQ 130 a #[(pt d),(pt f)] (.panicking b) c λa=>Ld a (pt d) λb=>Ld a (pt f) λc=>rt e (tP b c) a))) (λa b=>∀_:Fr,e (.panicked a) b))
theorem HP(h:L100 g a0 a1 H R):sc g 100 #[a0,a1] H R:=
 Oz func100 h zK
def L101:Y3:=λa b c d e f=>aj zQ 189 1 [(0,c)] e λe g=>CR f a 132 #[b,e] g λe g=>lN e i0 λh=>Br h (rt f (tP vF e) g) (yA [c] g λc e g h=>CR f a 133 #[g] h λi j=>Un .not i λi=>Br i (CR f a 134 #[b,g] j λa b=>lQ 3 b nC 201 a λa b=>lD 1 (pt a) b λi=>lD 0 (pt a) b λk=>oR d k λd=>oA d (wi 1) λd=>lE d (wi 1) λd=>Br d (lD 2 (pt a) b λa=>az c e [a] b [g] h) (az c e [i] b [g] h)) (lE g (ui 1) λa=>rt f (tP a i0) j))
theorem HN:qD L101 101:=λh=>sd (zA (zA (zB (zB (zF 0 [1] [0,2]))))) func101 h
def L102:Y1:=λ_ a b c=>Br a (c (.returned (.string (ByteArray.mk #[49]))) b) (c (.returned (.string (ByteArray.mk #[48]))) b)
theorem HM:qB L102 102:=λh=>sd .e func102 h
def L103:Y2:=λa b c d e=>lK d b 41 λb d=>Ld d (pt b) λf=>aj zQ 189 1 [(0,c)] d λd g=>CR e a 132 #[f,d] g λd f=>lN d i0 λg=>Br g (rt e (tP (wi 0) d) f) (lW f #[.nilFunc] 204 λd f=>St 1 f (pt d) (.func (.func 135) #[] #[(pt b)]) λf=>Ld f (pt b) λg=>CR e a 137 #[g,c,(wi 0),(wi 1),(.func (.func 138) #[] #[(pt b),(pt d)])] f λb f=>Ld f (pt d) λd=>bK zQ a d #[c] f (λa c=>oL b a λa=>rt e (tP a i0) c) (cv e))
theorem HL:qC L103 103:=λh=>sd .e func103 h
def L104:Y1:=λa b c d=>CR d a 139 #[b,(iv 10)] c λa b=>rt d a b
theorem HK:qB L104 104:=λh=>sd .e func104 h
def L106:Y1:=λa b c d=>CR d a 141 #[b] c λa b=>rt d a b
theorem wv:qB L106 106:=λh=>sd .e func106 h
def L107:Y1:=λa b c d=>oP b λe=>Br e (rt d i0 c) (lC 0 b λb=>af 0 b λb=>Ld c b λb=>CR d a 142 #[b] c λa b=>lS a (iv 2) λa=>rt d a b)
theorem HJ:qB L107 107:=λh=>sd .e func107 h
def L108:Y1:=λa b c d=>oP b λe=>Br e (rt d sZ c) (lM 5 b c λb=>CR d a 45 #[b] c λa b=>rt d a b)
theorem HH:qB L108 108:=λh=>sd .e func108 h
def L109:Y2:=λa b c d e=>aE b λf=>lE f i0 λg=>Br g (e (.returned (.string (ByteArray.mk #[]))) d) (lE f i1 λf=>Br f (lI 1 b i0 d λf=>rt e f d) (jB (λf g=>aE b λh=>yB [f,i0] g λf g i j k=>lL j h λh=>Br h (lI 1 b j k λh=>jA (λl=>aN h λm=>lA i m λm=>lA j i1 λn=>az f g [m,n] l [i,j] k) λf=>aN h λg=>lS (iv 9223372036854775807) i λh=>lG g h λg=>Br g (cU zQ a (bM Tryz.f109 15 1) (ev (λg=>cond (Nat.beq g 50) (.iface 9 (.string (ByteArray.mk #[115,116,114,105,110,103,115,58,32,74,111,105,110,32,111,117,116,112,117,116,32,108,101,110,103,116,104,32,111,118,101,114,102,108,111,119]))) (undef))) k (λ_ h=>JE f [] h) (cv e)) (JE f [] k)) (lW k #[(.pointer none),sZ] 128 λf h=>CR e a 67 #[(pt f),i] h λ_ h=>lI 1 b i0 h λi=>CR e a 68 #[(pt f),i] h λ_ h=>cP 1 b (some i1) none λi=>aE i λj=>yA [i0] h λh k l m=>lL l j λj=>Br j (lI 1 i l m λi=>CR e a 68 #[(pt f),c] m λ_ j=>CR e a 68 #[(pt f),i] j λ_ i=>lA l i1 λj=>az h k [j] i [l] m) (CR e a 70 #[(pt f)] m λf h=>rt e f h))) λf=>aN c λh=>lG h i0 λh=>Br h (jA (λh=>aN c λi=>aE b λj=>lS j i1 λj=>oM i j λi=>lA i0 i λi=>JE f [i] h) λh=>aN c λc=>aE b λb=>lS b i1 λb=>ae .num .quo (iv 9223372036854775807) b λb=>oG c b λb=>Br b (cU zQ a (bM Tryz.f109 9 1) (ev (λg=>cond (Nat.beq g 30) (.iface 9 (.string (ByteArray.mk #[115,116,114,105,110,103,115,58,32,74,111,105,110,32,111,117,116,112,117,116,32,108,101,110,103,116,104,32,111,118,101,114,102,108,111,119]))) (undef))) d (λ_ a=>JE h [] a) (cv e)) (JE h [] d)) (JE f [i0] d)))
theorem HG:qC L109 109:=λh=>sd (hN 3 (.h 1 [5] [0,1] (zA (zB (zF 1 [] [0,1,5]))) (.n (zA (zB (zE 0 [5,41] [0,1,39,40] (zA (zA (zB (zB (zA (zF 1 [] [0,1,5,7,39,40,41]))))))))) (hN 3 (zB (zA (zB (zF 0 [65] [1,8,63,64])))))))) func109 h
def L110:Y2:=λa b c d e=>oP b λf=>Br f (rt e (tP i0 (iv 10)) d) (jB (λf g=>Br f (rt e (tP i0 (iv 4)) g) (CR e a 108 #[b] g λf g=>CR e a 144 #[f,c] g λf g=>lX f λf h=>lN h i0 λi=>Br i (rt e (tP i0 h) g) (CR e a 145 #[b,f] g λf g=>lX f λf h=>rt e (tP f h) g))) λf=>CR e a 143 #[c] d λd g=>lN d i0 λd=>Split d false (aE c λc=>CR e a 71 #[b] g λa b=>lN c a λa=>aI vF vT a λa=>JE f [a] b) (aI vT vT undef λa=>JE f [a] g))
theorem HE:qC L110 110:=λh=>sd (zA (zA (zB (zF 1 [19] [0,1])))) func110 h
def L111:Y2:=λa b c d e=>oP b λf=>Br f (rt e (iv 10) d) (lL c i0 λf=>lO f (λf=>lM 4 b d λg=>lS g (iv 2) λg=>lG c g λg=>(lV d g f)) λf=>Br (Value.bool f) (rt e i1 d) (CR e a 146 #[b,c] d λa d=>Un .not a λa=>Br a (rt e (iv 9) d) (lM 7 b d λa=>aj zQ 108 1 [(0,c)] d λc d=>App zQ 3 1 8 i0 d a c λa c=>lC 7 b λb=>St 1 c b a λa=>rt e i0 a)))
theorem HD:qC L111 111:=λh=>sd (zA (zB (zB (zA (zA (zB (zF 0 [] [1]))))))) func111 h
def L112:Y3:=λa b c d e f=>lW e #[(.string (ByteArray.mk #[])),i0,i0] 26 λe g=>lM 0 b g λb=>CR f a 147 #[b,c,d] g λb c=>lX b λb d=>lQ 4 c #[i0,i0,i0,vF] 224 b λb c=>DR c λg=>lD 0 (pt b) g λh=>lD 1 (pt b) g λi=>lD 2 (pt b) g λj=>lD 3 (pt b) g λb=>CN a 106 #[h] c λc h=>aF h g/\
CN a 106 #[i] h λh i=>aF i g/\
CN a 106 #[j] i λi j=>aF j g/\
CN a 102 #[b] j λb j=>aF j g/\
aj zQ 174 4 [(0,c),(1,h),(2,i),(3,b)] j λb c=>aF c g/\
CN a 109 #[b,(.string (ByteArray.mk #[32]))] c λb c=>aF c g/\
CN a 99 #[b,d] c λa b=>aF b g/\
St 3 b (pt e) a λa=>ax 3 a (pt e) λb=>rt f b a
theorem HC:qD L112 112:=λh=>sd (zA (zA (zB (zF 0 [0,1,3,4,6,7,9,10,14,2,5,8,11,12,13,15,16] [])))) func112 h
variable {g:Gh} {a0 a1 a2 a3 a4 a5 a6 a7 a8 a9 sK sJ ZF ZE ZD ZC:zV} {H:Hp} {R:Rt}
def L116:Y2:=λ_ a b c d=>oA a (wi 4294967295) λe=>oR a (wi 32) λf=>oA b (wi 4294967295) λg=>oR b (wi 32) λh=>oM e g λi=>oM f g λg=>oR i (wi 32) λi=>lA g i λg=>oA g (wi 4294967295) λi=>oR g (wi 32) λg=>oM e h λe=>lA i e λe=>oM f h λf=>lA f g λf=>oR e (wi 32) λe=>lA f e λe=>oM a b λa=>rt d (tP e a) c
theorem HB:qC L116 116:=λh=>sd .e func116 h
def L117:Y2:=λa b c d e=>aN b λf=>aN c λg=>oG f g λf=>lU f (λf=>aN c λg=>aZ zQ a (bM Tryz.f117 1 9) (ev (λa=>cond (Nat.beq a 11) b (cond (Nat.beq a 13) g (undef)))) d λa=>ae .str .eql a c λa=>(lV d a f)) λf=>rt e (Value.bool f) d
theorem HA:qC L117 117:=λh=>sd (zA (zB (zF 0 [] [1]))) func117 h
def L118:Y1:=λa b c d=>lM 0 b c λe=>oP e λe=>Br e (aZ zQ a (bM Tryz.f118 1 2) (ev (λe=>cond (Nat.beq e 8) b (undef))) c λf=>cU zQ a (bM Tryz.f118 1 3) (ev (λe=>cond (Nat.beq e 9) f (undef))) c (λf g=>aZ zQ a (bM Tryz.f118 1 4) (ev (λe=>cond (Nat.beq e 10) f (undef))) g λf=>lC 0 b λh=>St 1 g h f λf=>rt d (.tuple #[]) f) (cv d)) (lM 0 b c λf=>aZ zQ a (bM Tryz.f118 2 5) (ev (λe=>cond (Nat.beq e 17) f (cond (Nat.beq e 18) b (undef)))) c λa=>Br a (False) (rt d (.tuple #[]) c))
theorem Hz:qB L118 118:=λh=>sd .e func118 h
def L119:Y2:=λa b c d e=>DR d λf=>lM 1 b f λg=>aZ zQ a (bM Tryz.f119 0 4) (ev (λh=>cond (Nat.beq h 8) g (undef))) f λg=>oM (iv 2) g λg=>lA g c λc=>lM 1 b f λg=>aE g λg=>cU zQ a (bM Tryz.f119 0 8) (ev (λh=>cond (Nat.beq h 12) c (undef))) d (λc d=>aF d f/\
cP 1 c none (some g) λc=>lM 1 b d λf=>cU zQ a (bM Tryz.f119 1 5) (ev (λh=>cond (Nat.beq h 20) c (cond (Nat.beq h 24) f (undef)))) d (λ_ a=>lC 1 b λb=>St 1 a b c λa=>rt e (.tuple #[]) a) (cv e)) gu
theorem Hy:qC L119 119:=λh=>sd (zB (zF 0 [0,1,2,3,4,5,6,7,9,10,11,12,13,8,14,15] [])) func119 h
def L120:Y2:=λa b c d e=>Ld d b λb=>aE b λf=>yA [i0] d λd g h i=>lL h f λf=>Br f (lI 1 b h i λb=>Ld i c λc=>CR e a 98 #[c,b] i λ_ a=>lA h i1 λb=>az d g [b] a [h] i) (rt e (.tuple #[]) i)
theorem Db(h:L120 g a0 a1 H R):lJ zQ g 120 #[a0,a1] H R:=
 DP (hn:=(zA (zB (zF 0 [6] [1,4,5])))) func120 h zK
def L121:Y2:=λa b c d e=>oP b λf=>Br f (rt e (tP (ui 0) (iv 10)) d) (jB (λf g=>CR e a 153 #[b,f] g λa b=>rt e (tP f a) b) λa=>Br c (JE a [(ui 1)] d) (JE a [(ui 0)] d))
theorem Hx:qC L121 121:=λh=>sd (hN 3 (zF 1 [6] [0])) func121 h
def L122:Y2:=λa b c d e=>oP b λf=>Br f (rt e (tP (ui 0) (iv 10)) d) (CR e a 154 #[b,c,(ui 0),(ui 1)] d λa b=>lX a λa c=>rt e (tP a c) b)
theorem Hw:qC L122 122:=λh=>sd .e func122 h
def L123:Y4:=λa b c d e f g=>lK f c 5 λc f=>oP b λh=>Br h (rt g (tP (ui 0) (iv 10)) f) (Ld f (pt c) λh=>lG h (bi 15) λh=>Br h (rt g (tP (ui 0) i1) f) (aj zQ 189 2 [(0,d),(1,e)] f λf h=>CR g a 155 #[b,f] h λb f=>lX b λb h=>lN h i0 λi=>Br i (rt g (tP (ui 0) h) f) (Build zQ 237 [(0,d),(1,e)] λd=>CR g a 156 #[b,d,(.func (.func 157) #[] #[(pt c)])] f λa b=>lX a λa c=>rt g (tP a c) b)))
theorem Hv:qE L123 123:=λh=>sd .e func123 h
def L124:Y4:=λa b c d e f g=>aj zQ 189 3 [(0,c),(1,d),(2,e)] f λf h=>CR g a 155 #[b,f] h λb f=>lX b λb h=>lN h i0 λi=>Br i (rt g (tP (ui 0) h) f) (Build zQ 237 [(0,c),(1,d),(2,e)] λc=>CR g a 156 #[b,c,(.func (.func 159) #[] #[])] f λa b=>lX a λa c=>rt g (tP a c) b)
theorem Hu:qE L124 124:=λh=>sd .e func124 h
def L125:Y2:=λa b c d e=>CR e a 132 #[b,c] d λd f=>lN d i0 λg=>Br g (rt e (tP i0 d) f) (lQ 1 f #[i0] 3 i0 λd f=>CR e a 160 #[b,c,(.func (.func 161) #[] #[(pt d)])] f λ_ a=>Ld a (pt d) λb=>rt e (tP b i0) a)
theorem Ht:qC L125 125:=λh=>sd .e func125 h
def L126:Y2:=λa b c d e=>lK d b 140 λb d=>jA (λf=>lA c i1 λg=>rt e g f) λf=>oG c (iv 1000) λc=>Br c (ax 3 d (pt b) λb=>CR e a 80 #[b,(iv 7)] d λ_ a=>JE f [] a) (JE f [] d)
theorem Hs:qC L126 126:=λh=>sd (zA (zF 1 [] [1])) func126 h
def L127:Y2:=λ_ a b c d=>oP a λe=>lO e (λe=>aH .i64 b λf=>lC 0 a λg=>af 3 g λg=>Ld c g λg=>aE g λg=>oG f g λf=>(lV c f e)) λe=>Br (Value.bool e) (rt d i0 c) (lC 0 a λa=>af 3 a λa=>Ld c a λa=>lI 1 a b c λa=>aH .i64 a λa=>rt d a c)
theorem Hr:qC L127 127:=λh=>sd (zA (zB (zB (zF 0 [] [1])))) func127 h
def L128:Y2:=λa b c d e=>aj zQ 189 1 [(0,c)] d λc d=>yA [c] d λc d f g=>aE f λh=>lG h i0 λh=>Br h (aE f λh=>lS h i1 λh=>lI 1 f h g λi=>cP 1 f none (some h) λh=>oQ i (ui 1) λj=>Br j (az c d [h] g [f] g) (lM 2 b g λj=>lI 1 j i g λk=>lS k (Value.int .i32 1) λk=>ah 1 j i λj=>St 1 g j k λj=>lM 2 b j λk=>lI 1 k i j λk=>lG k (Value.int .i32 0) λk=>Br k (az c d [h] j [f] g) (CR e a 162 #[b,i] j λj k=>lQ 3 k nC 201 j λj k=>DR k λl=>lM 1 b l λm=>ax 3 l (pt j) λl=>CN a 163 #[m,l] k λ_ k=>lM 0 b k λb=>CR e a 164 #[b,i] k λ_ a=>lD 1 (pt j) a λb=>lD 2 (pt j) a λi=>aj zQ 189 2 [(0,b),(1,i)] a λa b=>App zQ 80 1 4 (ui 0) b h a λa b=>az c d [a] b [f] g))) (rt e (.tuple #[]) g)
theorem Hq:qC L128 128:=λh=>sd (zA (zB (zE 0 [4] [0] (zA (zB (hN 6 (zB (zF 0 (yR 6) [])))))))) func128 h
def L129:Y2:=λa b c d e=>lW d nC 201 λd f=>oP b λg=>Br g (Build zQ 201 [] λg=>St 3 f (pt d) g λg=>ax 3 g (pt d) λh=>rt e (tP h (iv 10)) g) (lC 0 b λg=>CR e a 165 #[g,c] f λf g=>Un .not f λf=>Br f (Build zQ 201 [] λf=>St 3 g (pt d) f λf=>ax 3 f (pt d) λh=>rt e (tP h (iv 3)) f) (lC 0 b λb=>CR e a 162 #[b,c] g λa b=>St 3 b (pt d) a λa=>ax 3 a (pt d) λb=>rt e (tP b i0) a))
theorem Ho:qC L129 129:=λh=>sd .e func129 h
def L131:Y3:=λa b c d e f=>jA (λg=>oQ d (ui 1) λh=>Br h (aH .u8 d λh=>lA (bi 48) h λh=>CR f a 166 #[c,h] g λ_ h=>rt f (.tuple #[]) h) (CR f a 129 #[b,d] g λd g=>lX d λd _=>lQ 3 g nC 201 d λd g=>lD 0 (pt d) g λh=>CR f a 106 #[h] g λg h=>ae .str .add (.string (ByteArray.mk #[91,120])) g λg=>ae .str .add g (.string (ByteArray.mk #[63])) λg=>CR f a 68 #[c,g] h λ_ g=>lD 2 (pt d) g λh=>CR f a 131 #[b,c,h] g λ_ g=>CR f a 166 #[c,(bi 58)] g λ_ g=>lD 1 (pt d) g λd=>CR f a 131 #[b,c,d] g λ_ b=>CR f a 166 #[c,(bi 93)] b λ_ b=>rt f (.tuple #[]) b)) λb=>CR f a 69 #[c] e λc d=>lG c (iv 65536) λc=>Br c (Build zQ 209 [] λc=>cU zQ a (bM Tryz.f131 1 2) (ev (λa=>cond (Nat.beq a 12) (.iface 209 c) (undef))) d (λ_ a=>JE b [] a) (cv f)) (JE b [] d)
theorem py:qD L131 131:=λh=>sd (zF 1 [] [0,1,2]) func131 h
def L132:Y2:=λa b c d e=>oP b λf=>Br f (rt e (iv 10) d) (aE c λf=>yA [i0] d λd g h i=>lL h f λf=>Br f (lI 1 c h i λc=>CR e a 129 #[b,c] i λa b=>lX a λa c=>lQ 3 b nC 201 a λ_ a=>lN c i0 λb=>Br b (rt e c a) (lA h i1 λb=>az d g [b] a [h] i)) (rt e i0 i))
theorem Hl:qC L132 132:=λh=>sd (zA (zA (zB (zA (zB (zF 0 [13] [0,11,12])))))) func132 h
def L133:Y1:=λ_ a b c=>lE a (ui 0) λd=>lO d (λd=>lE a (ui 1) λa=>(lV b a d)) λd=>rt c (Value.bool d) b
theorem Hi:qB L133 133:=λh=>sd (zA (zB (zF 0 [] [1]))) func133 h
def L134:Y2:=λa b c d e=>lW d nC 201 λd f=>CR e a 129 #[b,c] f λa b=>lX a λa _=>lQ 3 b nC 201 a λa b=>ax 3 b (pt a) λa=>St 3 b (pt d) a λa=>ax 3 a (pt d) λb=>rt e b a
theorem Hh:qC L134 134:=λh=>sd .e func134 h
def L135:Y2:=λa b c d e=>CR e a 133 #[b] d λd f=>Br d (Ld f c λd=>CR e a 71 #[d] f λd g=>rt e d g) (DR f λd=>Ld d c λg=>Ld d c λc=>∀h:Hp,
CN (a.add h) 134 #[c,b] f λb c=>aF c d/\
wx 0 b λb=>∀f:Hp,
CN (a.add f) 136 #[g,b] c λa b=>aF b d/\
lX a λa _=>rt e a b)
theorem Hg:qC L135 135:=λh=>sd (zA (zA (zB (zE 1 [] [] (hr 0 [1] 0 11 .e))))) func135 h
def L136:Y2:=λa b c d e=>oP b λf=>Br f (rt e (tP i0 (iv 10)) d) (CR e a 167 #[b,c] d λa d=>Un .not a λa=>Br a (rt e (tP i0 (iv 2)) d) (lM 6 b d λa=>lI 1 a c d λa=>rt e (tP a i0) d))
theorem wu:qC L136 136:=λh=>sd .e func136 h
def L137:Y5:=λa b c d e f g h=>lK g b 41 λb g=>lK g f 217 λf g=>kH g λg i=>dJ (.int .u32) i g (ui 0) d λd=>dJ (.int .u32) d g (ui 1) e λd=>lQ 1 d #[(.map none)] 246 g λd e=>lW e #[.nilFunc] 247 λe g=>St 1 g (pt e) (.func (.func 168) #[] #[(pt d),(pt b),(pt f),(pt e)]) λb=>Ld b (pt e) λd=>bK zQ a d #[c] b (λa b=>rt h a b) (cv h)
theorem Hf:qF L137 137:=λh=>sd .e func137 h
def L138:Y5:=λa b c d e f g h=>lK g b 201 λb g=>Ld g e λe=>lD 0 (pt b) g λi=>CR h a 136 #[e,i] g λe g=>lX e λe _=>DR g λi=>Ld i f λj=>lD 1 (pt b) i λk=>Ld i f λf=>lD 2 (pt b) i λb=>∀l:Hp,
bK zQ (a.add l) j #[k] g (λg j=>aF j i/\
lS g e λg=>lS g i1 λg=>oL c g λc=>∀g:Hp,
bK zQ (a.add g) f #[b] j (λa b=>lS a e λa=>lS a i1 λa=>oL d a λa=>lA c a λa=>rt h a b) gu) gu
theorem He:qF L138 138:=λh=>sd (zA (zA (zB (zE 1 [] [] (hr 0 [1] 0 4 (zE 0 [5] [1] (hr 0 [1] 9 4 (zE 0 [14] [1] (zE 0 [4] [1] (hr 0 [1] 6 3 (zE 0 [13] [1] (hr 0 [1] 15 5 .e)))))))))))) func138 h
def L139:Y2:=λa b c d e=>CR e a 169 #[b,c] d λa b=>rt e a b
theorem G9:qC L139 139:=λh=>sd .e func139 h
def L141:Y1:=λa b c d=>CR d a 175 #[b,(iv 10)] c λa b=>rt d a b
theorem wq:qB L141 141:=λh=>sd .e func141 h
def L142:Y1:=λ_ a b c=>oP a λd=>Br d (rt c i0 b) (lM 3 a b λa=>rt c a b)
theorem G8:qB L142 142:=λh=>sd .e func142 h
def L143:Y1:=λ_ a b c=>aE a λd=>df 4 1 1 vF b d d λb d=>aE a λe=>yA [i0] d λd f g h=>lL g e λe=>Br e (lI 1 a g h λe=>lL e i0 λi=>lO i (λi=>aE a λj=>oG e j λj=>(lV h j i)) λi=>lO (Value.bool i) (λi=>lI 1 b e h λj=>(lV h j i)) λi=>Br (Value.bool i) (rt c (iv 4) h) (ah 1 b e λb=>St 1 h b vT λb=>lA g i1 λe=>az d f [e] b [g] h)) (aE a λa=>lG a (iv 64) λa=>Br a (rt c (iv 13) h) (rt c i0 h))
theorem G7:qB L143 143:=λh=>sd (zA (zA (zB (zA (zB (zE 0 [11] [0,3,9,10] (zA (zA (zB (zB (zA (zB (zB (zF 0 [] [1])))))))))))))) func143 h
def L144:Y2:=λa b c d e=>CR e a 176 #[b,c] d λd f=>lN d i0 λg=>Br g (rt e (tP sZ d) f) (CR e a 45 #[b] f λb d=>aE c λf=>yB [sZ,i0] d λd g h i j=>lL i f λf=>Br f (lI 1 c i j λc=>CR e a 177 #[b,c] j λa c=>yB [h,a] c λa c f k l=>lG k i λm=>Br m (DR l λm=>lS k i1 λn=>lI 1 b k m λo=>lS k i1 λp=>lI 1 b p m λm=>ah 1 b n λn=>St 1 l n o λn=>ah 1 b k λb=>St 1 n b m λb=>lS k i1 λm=>aj zQ 108 1 [(0,m)] b λb m=>App zQ 3 1 8 i0 m f b λb m=>lS k i1 λn=>az a c [b,n] m [f,k] l) (lA i i1 λa=>az d g [f,a] l [h,i] j)) (rt e (tP h i0) j))
theorem G6:qC L144 144:=λh=>sd (hN 4 (zB (zA (zB (zE 0 [8,22] [7,20,21] (zA (zA (zB (zB (zA (zA (zB (zE 0 [8,11] [7,9,20,21,22] (zA (zB (zB (zB (zF 0 (yR 18) [])))))))))))))))))) func144 h
def L145:Y2:=λa b c d e=>lW d #[i0] 3 λd f=>CF a 178 #[b] f (λb f=>lQ 1 f #[(.pointer none)] 264 b λb f=>aE c λg=>yA [i0] f λf h i j=>lL i g λg=>Br g (lI 1 c i j λc=>Ld j (pt b) λg=>CF a 181 #[g,c] j (λc g=>lN c i0 λk=>Br k (St 1 g (pt d) i0 λk=>kJ zQ a 179 #[(pt b),(pt d)] k λk=>Ld k (pt d) λl=>rt e (tP l c) k) (lA i i1 λc=>az f h [c] g [i] j)) NoP) (Ld j (pt b) λc=>lC 3 c λc=>St 1 j c vT λc=>St 1 c (pt d) i0 λc=>kJ zQ a 179 #[(pt b),(pt d)] c λa=>Ld a (pt d) λb=>rt e (tP b i0) a)) NoP
theorem G5(h:L145 g a0 a1 H R):sc g 145 #[a0,a1] H R:=
 DO (hn:=(hN 3 (zB (zA (zB (zF 0 [14] [4,6,12,13])))))) func145 h zK
def L146:Y2:=λa b c d e=>lM 5 b d λf=>lI 1 f c d λf=>lM 5 b d λg=>lA c i1 λh=>lI 1 g h d λg=>CR e a 182 #[b,f,g] d λd h=>DR h λ_=>lC 0 b λi=>CN a 184 #[b,f,d] h λh j=>CN a 183 #[i,h] j λh i=>Un .not h λh=>Br h (rt e vF i) (aE d λh=>yA [i0] i λi j k l=>lL k h λh=>Br h (ah 8 d k λh=>ax 8 l h λh=>lQ 8 l #[(ui 0),i0,(ui 0),(ui 0),(ui 0),(ui 0),(ui 0),(ui 0)] 272 h λh m=>DR m λn=>lC 0 b λo=>af 1 o λo=>Ld n o λo=>af 1 (pt h) λh=>ax 3 n h λh=>CN a 163 #[o,h] m λ_ h=>lA k i1 λm=>az i j [m] h [k] l) (aE d λh=>yA [i0] l λi j k l=>lL k h λh=>Br h (ah 8 d k λh=>ax 8 l h λh=>lQ 8 l #[(ui 0),i0,(ui 0),(ui 0),(ui 0),(ui 0),(ui 0),(ui 0)] 272 h λh m=>DR m λn=>lC 0 b λo=>lD 4 (pt h) n λp=>lD 6 (pt h) n λn=>CN a 185 #[o,f,p,n] m λm n=>lC 0 b λo=>CR e a 186 #[o,m] n λ_ n=>DR n λo=>lC 0 b λp=>lD 5 (pt h) o λq=>lD 7 (pt h) o λo=>CN a 185 #[p,f,q,o] n λn o=>lC 0 b λp=>CR e a 186 #[p,n] o λ_ o=>Build zQ 201 [(0,g),(1,m),(2,n)] λm=>lQ 3 o nC 201 m λm n=>DR n λo=>lC 0 b λp=>af 0 p λp=>Ld o p λp=>lD 0 (pt h) o λq=>ax 3 o (pt m) λo=>CN a 187 #[p,q,o] n λ_ n=>DR n λo=>lC 0 b λp=>af 1 p λp=>Ld o p λp=>ax 3 o (pt m) λm=>lD 0 (pt h) o λh=>CN a 188 #[p,m,h] n λ_ h=>lA k i1 λm=>az i j [m] h [k] l) (aE d λh=>yA [i0] l λi j k l=>lL k h λh=>Br h (ah 8 d k λd=>ax 8 l d λd=>lQ 8 l #[(ui 0),i0,(ui 0),(ui 0),(ui 0),(ui 0),(ui 0),(ui 0)] 272 d λd h=>DR h λm=>lC 0 b λn=>af 1 (pt d) λo=>af 1 o λo=>Ld m o λm=>CN a 128 #[n,m] h λ_ h=>DR h λm=>lC 0 b λn=>af 1 (pt d) λd=>af 2 d λd=>Ld m d λd=>CN a 128 #[n,d] h λ_ a=>lA k i1 λd=>az i j [d] a [k] l) (DR l λa=>lM 5 b a λd=>lM 5 b a λa=>lA c i1 λh=>ah 1 d c λd=>St 1 l d g λd=>ah 1 a h λa=>St 1 d a f λa=>DR a λd=>lM 6 b d λh=>lM 6 b d λb=>lA c i1 λd=>ah 1 h f λf=>St 1 a f d λa=>ah 1 b g λb=>St 1 a b c λa=>rt e vT a))))
theorem G4:qC L146 146:=λh=>sd (hN 3 (.n (zB (zF 0 (yR 9) [])) (.n (zA (zB (zE 0 [47] [0,1,5,6,7,45,46] (zA (zA (zB (zB (zA (zF 0 (yR 8) []))))))))) (.n (zA (zB (zE 0 [62] [0,1,5,6,7,60,61] (zA (zA (zB (zB (zA (.n (zF 0 (yR 10) []) (zA (.n (zF 0 (yR 10) []) (zA (zA (.n (zF 0 (yR 9) []) (zF 0 (yR 9) []))))))))))))))) (.n (zA (zB (zE 0 [119] [0,1,5,6,117,118] (zA (zA (zB (zB (zA (.n (zF 0 (yR 7) []) (zF 0 (yR 7) [])))))))))) (.n (zF 0 (yR 17) []) (zB (zF 0 (yR 17) [])))))))) func146 h
def L147:Y3:=λa b c d e f=>lW e #[i0,i0,i0,vF] 224 λe g=>CR f a 189 #[b,c,d] g λg h=>lN g i0 λi=>Br i (Build zQ 224 [] λi=>St 4 h (pt e) i λi=>ax 4 i (pt e) λj=>rt f (tP j g) i) (lE c (bi 1) λg=>Br g (CR f a 190 #[b,d] h λg i=>lX g λg j=>St 4 i (pt e) g λg=>ax 4 g (pt e) λi=>rt f (tP i j) g) (lE c (bi 2) λg=>Br g (CR f a 191 #[b,d] h λd g=>lX d λi _=>Ext 2 d λd=>lQ 4 g #[i0,i0,i0,vF] 224 i λg i=>ax 4 i (pt g) λg=>St 4 i (pt e) g λg=>ax 4 g (pt e) λi=>rt f (tP i d) g) (jB (λd g=>Br d (CR f a 193 #[c] g λd i=>CR f a 192 #[b,d] i λd i=>lX d λd j=>St 4 i (pt e) d λd=>ax 4 d (pt e) λi=>rt f (tP i j) d) (lE c (bi 6) λd=>Br d (CR f a 194 #[b] g λd i=>lX d λd j=>St 4 i (pt e) d λd=>ax 4 d (pt e) λi=>rt f (tP i j) d) (CR f a 107 #[b] g λd g=>CR f a 107 #[b] g λa b=>Build zQ 224 [(0,d),(1,a)] λa=>St 4 b (pt e) a λa=>ax 4 a (pt e) λb=>rt f (tP b i0) a))) λa=>lE c (bi 3) λb=>Br b (JE a [b] h) (lE c (bi 4) λb=>Br b (JE a [b] h) (lE c (bi 5) λb=>JE a [b] h)))))
theorem pw:qD L147 147:=λh=>sd (zA (zA (zB (zA (zB (hN 4 (zF 1 [39] [0,1,6,20]))))))) func147 h
def L153:Y2:=λa b c d e=>oP b λf=>Br f (rt e (iv 10) d) (lC 0 b λf=>CR e a 165 #[f,c] d λa d=>Un .not a λa=>Br a (rt e (iv 3) d) (jA (λa=>lC 7 b λf=>St 1 a f sZ λa=>rt e i0 a) λa=>lG c (ui 1) λf=>Br f (lC 0 b λf=>af 3 f λf=>Ld d f λf=>lI 1 f c d λf=>lE f (Value.int .i32 65535) λf=>Br f (rt e (iv 8) d) (lC 0 b λe=>af 3 e λe=>Ld d e λe=>lI 1 e c d λf=>lA f (Value.int .i32 1) λf=>ah 1 e c λe=>St 1 d e f λe=>lC 0 b λf=>af 3 f λf=>Ld e f λf=>lI 1 f c e λf=>lE f (Value.int .i32 1) λf=>Br f (lC 0 b λb=>af 2 b λb=>Ld e b λb=>lI 1 b c e λf=>lA f (Value.int .i32 1) λf=>ah 1 b c λb=>St 1 e b f λb=>JE a [] b) (JE a [] e))) (JE a [] d)))
theorem wo:qC L153 153:=λh=>sd (zA (zA (zF 1 [] [0]))) func153 h
def L154:Y4:=λa b c d e f g=>oP b λh=>Br h (rt g (tP (ui 0) (iv 10)) f) (CR g a 198 #[b,c,d,e] f λf h=>lN f i0 λi=>Br i (rt g (tP (ui 0) f) h) (CR g a 199 #[b,c,d,e] h λf h=>lX f λf i=>jB (λj k=>CR g a 153 #[b,j] k λk l=>lN k i0 λm=>Br m (rt g (tP (ui 0) k) l) (rt g (tP j i0) l)) λj=>Un .not i λi=>Br i (lC 0 b λi=>CR g a 183 #[i,i1] h λi k=>Un .not i λi=>Br i (rt g (tP (ui 0) (iv 9)) k) (lC 0 b λb=>Build zQ 201 [(0,c),(1,d),(2,e)] λc=>CR g a 200 #[b,c] k λa b=>JE j [a] b)) (JE j [f] h)))
theorem G0:qE L154 154:=λh=>sd (hN 4 (zF 1 [11] [0])) func154 h
def L155:Y2:=λa b c d e=>oP b λf=>Br f (rt e (tP (.pointer none) (iv 10)) d) (aE c λf=>yA [i0] d λd g h i=>lL h f λf=>Br f (lI 1 c h i λc=>CR e a 129 #[b,c] i λc f=>lX c λc j=>lQ 3 f nC 201 c λ_ c=>lN j i0 λf=>Br f (rt e (tP (.pointer none) j) c) (lA h i1 λf=>az d g [f] c [h] i)) (CR e a 71 #[b] i λc d=>df 3 1 8 i0 d c c λc d=>Build zQ 289 [(0,b),(1,c)] λc=>lK d c 289 λc d=>CR e a 108 #[b] d λa b=>aE a λd=>yA [i0] b λb f g h=>lL g d λd=>Br d (lI 1 a g h λa=>lM 1 (pt c) h λd=>ah 1 d a λa=>St 1 h a g λa=>lA g i1 λd=>az b f [d] a [g] h) (rt e (tP (pt c) i0) h)))
theorem GZ:qC L155 155:=λh=>sd (zA (zA (.n (zA (zB (zF 0 [17] [0,15,16]))) (zA (zB (zA (zB (zF 0 [40] [10,38,39])))))))) func155 h
def L156:Y3:=λa b c d e f=>lK e b 232 λb e=>lK e c 237 λc e=>lK e d 239 λd e=>lW e #[(ui 0)] 80 λe g=>lW g #[i0] 24 λg h=>kH h λh i=>lQ 1 i #[(.map none)] 291 h λh i=>lW i #[.nilFunc] 292 λi j=>St 1 j (pt i) (.func (.func 203) #[] #[(pt h),(pt b),(pt d),(pt i)]) λd=>Ld d (pt i) λh=>ax 3 d (pt c) λc=>bK zQ a h #[c] d (λc d=>lX c λc h=>St 1 d (pt e) c λc=>St 1 c (pt g) h λc=>kJ zQ a 201 #[(pt b),(pt e),(pt g)] c λa=>Ld a (pt e) λb=>Ld a (pt g) λc=>rt f (tP b c) a) NoP
theorem GY(h:L156 g a0 a1 a2 H R):sc g 156 #[a0,a1,a2] H R:=
 DO (hn:=(zA (zA .e))) func156 h zK
def L157:Y4:=λa b c _ d e f=>DR e λg=>Ld g d λd=>CN a 158 #[b] e λb e=>aF e g/\
oM (bi 2) b λb=>CN a 158 #[c] e λa c=>aF c g/\
lA b a λa=>oR d a λa=>oA a (bi 1) λa=>lE a (bi 1) λa=>rt f a c
theorem GX:qE L157 157:=λh=>sd (zA (zB (zF 0 [0,1,4,2,3,5,6,7,8,9,10] []))) func157 h
def L158:Y1:=λ_ a b c=>Br a (rt c (bi 1) b) (rt c (bi 0) b)
theorem GW:qB L158 158:=λh=>sd .e func158 h
def L159:Y3:=λ_ a b c d e=>lU a (λf=>(lV d b f)) λf=>lO (Value.bool f) (λb=>Un .not a λa=>cz a true (λa=>(lV d c a)) (λa=>vF=Value.bool a) λa=>∀_:Fr,
(lV d (Value.bool a) b)) λb=>rt e (Value.bool b) d
theorem GV:qD L159 159:=λh=>sd (zA (zB (zF 0 [] [1]))) func159 h
def L160:Y3:=λa b c d e f=>lK e b 41 λb e=>lK e d 241 λd e=>kH e λe g=>lQ 1 g #[(.map none)] 296 e λe g=>lW g #[.nilFunc] 205 λg h=>St 1 h (pt g) (.func (.func 207) #[] #[(pt e),(pt b),(pt d),(pt g)]) λb=>aE c λd=>yA [i0] b λb e h i=>lL h d λd=>Br d (lI 1 c h i λc=>Ld i (pt g) λd=>bK zQ a d #[c] i (λ_ a=>lA h i1 λc=>az b e [c] a [h] i) (cv f)) (rt f (.tuple #[]) i)
theorem GU:qD L160 160:=λh=>sd (hN 5 (zB (zF 0 [14] [7,12,13]))) func160 h
def L161:Y2:=λ_ a b c d=>lK c a 201 λ_ a=>Ld a b λc=>lA c i1 λc=>St 1 a b c λa=>rt d (.tuple #[]) a
theorem GS:qC L161 161:=λh=>sd .e func161 h
def L162:Y2:=λa b c d e=>lW d nC 201 λd f=>lM 0 b f λb=>CR e a 208 #[b,c] f λa b=>lX a λa _=>lQ 3 b nC 201 a λa b=>ax 3 b (pt a) λa=>St 3 b (pt d) a λa=>ax 3 a (pt d) λb=>rt e b a
theorem GR:qC L162 162:=λh=>sd .e func162 h
def L163:Y2:=λa b c d e=>lK d c 201 λc d=>lD 0 (pt c) d λf=>CR e a 209 #[b,f] d λa d=>lN a i0 λf=>Br f (rt e a d) (lM 0 b d λa=>lD 0 (pt c) d λf=>lI 1 a f d λa=>ax 3 d (pt c) λf=>jN zQ 201 (ui 0) true d a f λa=>lX a λ_ a=>Un .not a λa=>Br a (rt e (iv 10) d) (DR d λa=>lM 0 b a λb=>lD 0 (pt c) a λf=>lI 1 b f a λb=>ax 3 a (pt c) λc=>qI zQ 201 d b c λb=>aF b a/\
rt e i0 b))
theorem GQ:qC L163 163:=λh=>sd (hN 3 (zB (zF 0 (yR 10) []))) func163 h
def L164:Y2:=λa b c d e=>oP b λf=>Br f (rt e (iv 10) d) (CR e a 210 #[b,c] d λa d=>lN a i0 λf=>Br f (rt e a d) (lM 1 b d λa=>Build zQ 203 [] λf=>ah 5 a c λa=>St 5 d a f λa=>lM 2 b a λd=>aj zQ 189 1 [(0,c)] a λa c=>App zQ 80 1 4 (ui 0) c d a λa c=>lC 2 b λd=>St 1 c d a λa=>lM 3 b a λc=>lS c i1 λc=>lC 3 b λb=>St 1 a b c λa=>rt e i0 a))
theorem GP:qC L164 164:=λh=>sd .e func164 h
def L165:Y2:=λa b c d e=>lM 0 b d λb=>CR e a 208 #[b,c] d λa b=>lX a λa c=>lQ 3 b nC 201 a λ_ a=>lE c i0 λb=>rt e b a
theorem GO:qC L165 165:=λh=>sd .e func165 h
def L166:Y2:=λa b c d e=>CR e a 118 #[b] d λ_ a=>lM 1 b a λd=>aj zQ 67 1 [(0,c)] a λa c=>App zQ 5 1 1 (bi 0) c d a λa c=>lC 1 b λb=>St 1 c b a λa=>rt e .nilIface a
theorem GN:qC L166 166:=λh=>sd .e func166 h
def L167:Y2:=λ_ a b c d=>oG b i0 λe=>lU e (λe=>lM 4 a c λa=>lL b a λa=>(lV c a e)) λe=>rt d (Value.bool e) c
theorem GM:qC L167 167:=λh=>sd (zA (zB (zF 0 [] [1]))) func167 h
def L168:Y5:=λa b c d e f g h=>Ld g c λi=>jE (.int .u32) (wi 0) true g i b λi=>lX i λi j=>Br j (rt h i g) (Ld g d λd=>CR h a 134 #[d,b] g λd g=>lQ 3 g nC 201 d λd g=>DR g λi=>Ld i e λe=>ax 3 i (pt d) λj=>Ld i f λk=>lD 1 (pt d) i λl=>Ld i f λf=>lD 2 (pt d) i λd=>∀m:Hp,
bK zQ (a.add m) k #[l] g (λg k=>aF k i/\
∀l:Hp,
bK zQ (a.add l) f #[d] k (λd f=>aF f i/\
∀i:Hp,
bK zQ (a.add i) e #[j,g,d] f (λa d=>Ld d c λc=>dJ (.int .u32) d c b a λb=>rt h a b) gu) gu) gu)
theorem wm:qF L168 168:=λh=>sd (hN 3 (zB (zE 1 [] [] (hr 0 [1] 0 5 (hr 0 [1] 6 3 (zE 0 [5] [1] (hr 0 [1] 9 3 .e))))))) func168 h
def L169:Y2:=λa b c d e=>lE c (iv 10) λf=>Br f (lL b (wi 100) λf=>Br f (aH .i64 b λf=>CR e a 211 #[f] d λf g=>rt e f g) (lW d #[(bi 0),(bi 0),(bi 0),(bi 0),(bi 0),(bi 0),(bi 0),(bi 0),(bi 0),(bi 0),(bi 0),(bi 0),(bi 0),(bi 0),(bi 0),(bi 0),(bi 0),(bi 0),(bi 0),(bi 0),(bi 0),(bi 0),(bi 0),(bi 0)] 297 λf g=>CR e a 212 #[b] g λg h=>aZ zQ a (bM Tryz.f169 6 1) (ev (λi=>cond (Nat.beq i 5) (pt f) (cond (Nat.beq i 18) g (undef)))) h λj=>CR e a 213 #[j,b] h λ_ h=>aZ zQ a (bM Tryz.f169 7 1) (ev (λi=>cond (Nat.beq i 5) (pt f) (cond (Nat.beq i 22) g (undef)))) h λf=>dK h f λf=>rt e f h)) (CR e a 214 #[sZ,b,c,vF,vF] d λa b=>lX a λ_ a=>rt e a b)
theorem GL:qC L169 169:=λh=>sd .e func169 h
def L175:Y2:=λa b c d e=>lE c (iv 10) λf=>Br f (oQ i0 b λf=>lU f (λf=>lL b (iv 100) λg=>(lV d g f)) λf=>Br (Value.bool f) (CR e a 211 #[b] d λf g=>rt e f g) (lW d #[(bi 0),(bi 0),(bi 0),(bi 0),(bi 0),(bi 0),(bi 0),(bi 0),(bi 0),(bi 0),(bi 0),(bi 0),(bi 0),(bi 0),(bi 0),(bi 0),(bi 0),(bi 0),(bi 0),(bi 0),(bi 0),(bi 0),(bi 0),(bi 0)] 297 λf g=>aH .u64 b λh=>jB (λi j=>CR e a 212 #[i] j λj k=>lA i1 j λl=>aZ zQ a (bM Tryz.f175 9 2) (ev (λm=>cond (Nat.beq m 5) (pt f) (cond (Nat.beq m 29) l (undef)))) k λl=>CR e a 213 #[l,i] k λ_ i=>lL b i0 λk=>Br k (fo 24 1 (pt f) i0 λk=>St 1 i k (bi 45) λk=>lA i1 j λl=>aZ zQ a (bM Tryz.f175 12 2) (ev (λm=>cond (Nat.beq m 5) (pt f) (cond (Nat.beq m 37) l (undef)))) k λl=>dK k l λl=>rt e l k) (lA i1 j λj=>aZ zQ a (bM Tryz.f175 13 2) (ev (λm=>cond (Nat.beq m 5) (pt f) (cond (Nat.beq m 41) j (undef)))) i λf=>dK i f λf=>rt e f i)) λf=>lL b i0 λi=>Br i (Un .neg h λi=>JE f [i] g) (JE f [h] g))) (aH .u64 b λf=>lL b i0 λb=>CR e a 214 #[sZ,f,c,b,vF] d λa b=>lX a λ_ a=>rt e a b)
theorem wj:qC L175 175:=λh=>sd (zA (zB (zA (zB (.n (zB (zF 0 [] [1])) (zA (zA (zF 1 [6] [0,5])))))))) func175 h
def L176:Y2:=λa b c d e=>CR e a 143 #[b] d λd f=>CR e a 143 #[c] f λa f=>lE d (iv 4) λg=>lO g (λg=>lE a (iv 4) λh=>(lV f h g)) λg=>lO (Value.bool g) (λg=>aE b λb=>aE c λc=>lN b c λb=>(lV f b g)) λg=>Br (Value.bool g) (rt e (iv 4) f) (YI d a λa=>rt e a f)
theorem GK:qC L176 176:=λh=>sd (zA (zA (zB (zB (zF 0 [] [1]))))) func176 h
def L177:Y2:=λ_ a b c d=>aE a λe=>yA [i0] c λc f g h=>lL g e λe=>Br e (lI 1 a g h λa=>lE b a λa=>Br a (rt d g h) (lA g i1 λa=>az c f [a] h [g] h)) (d (.returned (iv (-1))) h)
theorem GJ:qC L177 177:=λh=>sd (zA (zB (zA (zB (zF 0 [8] [0,1,7]))))) func177 h
def L178:Y1:=λa b c d=>CR d a 222 #[b] c λa c=>Build zQ 267 [(0,b),(1,a)] λa=>lK c a 267 λa b=>rt d (pt a) b
theorem GI:qB L178 178:=λh=>sd .e func178 h
def L179:Y2:=λa b c d e=>Ld d b λf=>CR e a 180 #[f] d λ_ a=>Ld a b λb=>lM 2 b a λb=>St 1 a c b λa=>rt e (.tuple #[]) a
theorem sN(h:L179 g a0 a1 H R):lJ zQ g 179 #[a0,a1] H R:=
 DP (hn:=.e) func179 h zK
def L180:Y1:=λa b c d=>lM 3 b c λe=>Un .not e λe=>Br e (CR d a 223 #[b] c λ_ a=>rt d (.tuple #[]) a) (rt d (.tuple #[]) c)
theorem wh:qB L180 180:=λh=>sd .e func180 h
def L181:Y2:=λa b c d e=>lM 0 b d λf=>CR e a 111 #[f,c] d λa c=>jA (λd=>rt e a d) λd=>lE a i0 λa=>Br a (lM 2 b c λa=>lA a i1 λa=>lC 2 b λb=>St 1 c b a λa=>JE d [] a) (JE d [] c)
theorem wg:qC L181 181:=λh=>sd (zA (zA (zF 1 [] [5]))) func181 h
def L182:Y3:=λa b c d e f=>lC 0 b λg=>af 1 g λg=>Ld e g λg=>CR f a 224 #[g,c] e λc e=>lX c λc _=>aE c λg=>yB [sZ,i0] e λe h i j k=>lL j g λg=>Br g (jB (λg l=>lA j i1 λm=>az e h [g,m] l [i,j] k) λe=>lI 1 c j k λc=>lC 0 b λg=>CR f a 162 #[g,c] k λg h=>lQ 3 h nC 201 g λg h=>jB (λj l=>Br j (JE e [i] l) (ax 3 l (pt g) λj=>Build zQ 272 [(0,c),(1,j)] λc=>lQ 8 l #[(ui 0),i0,(ui 0),(ui 0),(ui 0),(ui 0),(ui 0),(ui 0)] 272 c λc j=>lD 1 (pt g) j λl=>CR f a 225 #[b,l,d] j λj l=>lX j λj m=>af 4 (pt c) λn=>St 1 l n j λj=>af 5 (pt c) λl=>St 1 j l m λj=>lD 2 (pt g) j λl=>CR f a 225 #[b,l,d] j λj l=>lX j λj m=>af 6 (pt c) λn=>St 1 l n j λj=>af 7 (pt c) λl=>St 1 j l m λj=>ax 8 j (pt c) λc=>aj zQ 268 1 [(0,c)] j λc j=>App zQ 272 8 40 (.agg #[(ui 0),i0,(ui 0),(ui 0),(ui 0),(ui 0),(ui 0),(ui 0)]) j i c λc j=>JE e [c] j)) λc=>DR h λe=>lC 0 b λj=>lD 1 (pt g) e λl=>∀m:Hp,
CN (a.add m) 162 #[j,l] h λh j=>aF j e/\
wx 0 h λh=>lN h d λh=>Br h (lC 0 b λb=>lD 2 (pt g) e λg=>∀h:Hp,
CN (a.add h) 162 #[b,g] j λa b=>aF b e/\
wx 0 a λa=>lN a d λa=>aI vT a vF λa=>JE c [a] b) (JE c [vF] j)) (rt f i k)
theorem GH:qD L182 182:=λh=>sd (hN 3 (zB (zA (zB (zE 0 [7,26] [0,2,24,25] (zA (zA (zE 1 [7] [0,2,24,25,26] (zB (zA (zA (zB (zE 1 [54] [0,2,7,11,12,24,25,26] (zE 1 [] [] (hr 0 [] 0 5 (zE 0 [7] [] (hr 0 [] 5 2 (zE 0 [8] [] (.h 2 [9] [] (hr 0 [] 10 5 (zE 0 [17] [] (hr 0 [] 15 2 (hr 0 [] 18 2 .e)))) (hr 0 [] 10 9 (zF 3 [19] []))))))))))))))))))))) func182 h
def L183:Y2:=λa b c d e=>DR d λf=>lM 0 b f λg=>lM 0 b f λb=>CN a 142 #[g] d λd g=>aF g f/\
lA d c λc=>CN a 226 #[b] g λa b=>aF b f/\
oQ c a λa=>rt e a b
theorem GG:qC L183 183:=λh=>sd (zA (zB (zF 0 [0,1,2,3,5,7,8,9,10,4,6,11,12,13] []))) func183 h
def L184:Y3:=λa b c d e f=>kH e λe g=>aE d λh=>yA [i0] g λg i j k=>lL j h λh=>Br h (ah 8 d j λd=>ax 8 k d λd=>lQ 8 k #[(ui 0),i0,(ui 0),(ui 0),(ui 0),(ui 0),(ui 0),(ui 0)] 272 d λd h=>lD 4 (pt d) h λl=>lD 6 (pt d) h λm=>Build zQ 201 [(0,c),(1,l),(2,m)] λl=>lD 5 (pt d) h λm=>lD 7 (pt d) h λd=>Build zQ 201 [(0,c),(1,m),(2,d)] λc=>aj zQ 293 2 [(0,l),(1,c)] h λc d=>aE c λh=>yA [i0] d λd l m n=>lL m h λh=>Br h (jA (λh=>lA m i1 λo=>az d l [o] h [m] n) λd=>ah 3 c m λc=>ax 3 n c λc=>lQ 3 n nC 201 c λc h=>DR h λl=>lC 0 b λb=>af 1 b λb=>Ld l b λb=>ax 3 l (pt c) λm=>CN a 227 #[b,m] h λb h=>aF h l/\
lX b λ_ b=>Un .not b λb=>lU b (λb=>lD 1 (pt c) h λl=>lD 2 (pt c) h λm=>lN l m λl=>(lV h l b)) λb=>Br (Value.bool b) (YG zQ a 10 (nZ Tryz.f184 10) [7,11] [e,(pt c)] h λa=>∀_:Fr,
JE d [] a) (JE d [] h)) (lA j i1 λa=>az g i [a] n [j] k)) (Au k e λa=>rt f a k)
theorem GF:qD L184 184:=λh=>sd (zA (zA (zB (zA (zB (zE 0 [17] [0,1,7,15,16] (zA (zA (zB (zB (zA (zA (zB (zE 0 [35] [0,1,7,15,16,17,33,34] (zA (zA (zE 1 [] [0,1,7,15,16,17,33,34,35] (zB (zA (.n (zF 0 (yR 12) []) (.n (zF 0 [] [1]) (zB (zF 9 [7,11] []))))))))))))))))))))))) func184 h
variable {g:Gh} {a0 a1 a2 a3 a4 a5 a6 a7 a8 a9 sK sJ ZF ZE ZD ZC:zV} {H:Hp} {R:Rt}
def L185:Y4:=λa b c d e f g=>lE d e λh=>Br h (rt g d f) (Build zQ 201 [(0,c),(1,d),(2,e)] λc=>lQ 3 f nC 201 c λc d=>DR d λe=>lM 1 b e λf=>ax 3 e (pt c) λh=>CN a 227 #[f,h] d λd f=>aF f e/\
lX d λd e=>Br e (rt g d f) (ax 3 f (pt c) λc=>CR g a 200 #[b,c] f λa b=>rt g a b))
theorem po:qE L185 185:=λh=>sd (hN 3 (zB (zB (zF 0 (yR 11) [])))) func185 h
def L186:Y2:=λ_ a b c d=>lG b (ui 1) λe=>Br e (lM 2 a c λa=>lI 1 a b c λe=>lA e (Value.int .i32 1) λe=>ah 1 a b λa=>St 1 c a e λa=>rt d (.tuple #[]) a) (rt d (.tuple #[]) c)
theorem GD:qC L186 186:=λh=>sd .e func186 h
def L187:Y3:=λa b c d e f=>lK e d 201 λd e=>oP b λg=>Br g (rt f (iv 10) e) (ax 3 e (pt d) λg=>CR f a 228 #[b,g] e λe g=>lN e i0 λh=>Br h (rt f e g) (CR f a 210 #[b,c] g λa e=>lN a i0 λg=>Br g (rt f a e) (DR e λa=>lM 1 b a λb=>ax 3 a (pt d) λa=>ah 5 b c λb=>af 0 b λb=>St 3 e b a λa=>rt f i0 a)))
theorem GC:qD L187 187:=λh=>sd (hN 4 (zB (zF 0 (yR 9) []))) func187 h
def L188:Y3:=λa b c d e f=>lK e c 201 λc e=>lD 0 (pt c) e λg=>CR f a 209 #[b,g] e λa e=>lN a i0 λg=>Br g (rt f a e) (lM 0 b e λa=>lD 0 (pt c) e λg=>lI 1 a g e λa=>ax 3 e (pt c) λg=>jN zQ 201 (ui 0) true e a g λa=>lX a λ_ a=>Br a (rt f (iv 11) e) (DR e λa=>lM 0 b a λb=>lD 0 (pt c) a λg=>lI 1 b g a λb=>ax 3 a (pt c) λa=>jM zQ 201 e b a d λa=>rt f i0 a))
theorem GB:qD L188 188:=λh=>sd (hN 3 (zB (zF 0 (yR 11) []))) func188 h
def L189:Y3:=λa b c d e f=>oP b λg=>Br g (rt f (iv 10) e) (lG c (bi 6) λg=>lO g (λg=>lL d (iv 100) λh=>(lV e h g)) λg=>lO (Value.bool g) (λg=>lG d (iv 1000) λd=>(lV e d g)) λg=>Br (Value.bool g) (rt f i1 e) (jB (λd g=>Br d (rt f (iv 6) g) (rt f i0 g)) λd=>lE c (bi 6) λc=>Split c true (CR f a 71 #[b] e λa b=>lG a (iv 12) λa=>aI vT a vF λa=>JE d [a] b) (aI vF undef vF λa=>JE d [a] e)))
theorem GA:qD L189 189:=λh=>sd (zA (zB (zB (zA (zA (.n (zF 0 [] [1]) (zA (zF 1 [21] [])))))))) func189 h
def L190:Y2:=λa b c d e=>lW d #[i0,i0,i0,vF] 224 λd f=>CR e a 229 #[b,c] f λf g=>lN f i0 λh=>Br h (Build zQ 224 [] λh=>St 4 g (pt d) h λh=>ax 4 h (pt d) λi=>rt e (tP i f) h) (CR e a 107 #[b] g λf g=>Build zQ 224 [(0,f)] λf=>lQ 4 g #[i0,i0,i0,vF] 224 f λf g=>CR e a 230 #[b] g λg h=>aE g λi=>yA [i0] h λh j k l=>lL k i λi=>Br i (lI 1 g k l λg=>CR e a 231 #[b,g,c] l λc g=>lX c λc _=>lQ 4 g #[i0,i0,i0,vF] 224 c λc g=>lD 2 (pt f) g λi=>lD 2 (pt c) g λc=>lA i c λc=>af 2 (pt f) λi=>St 1 g i c λc=>lA k i1 λg=>az h j [g] c [k] l) (CR e a 107 #[b] l λa b=>af 1 (pt f) λc=>St 1 b c a λa=>ax 4 a (pt f) λb=>St 4 a (pt d) b λa=>ax 4 a (pt d) λb=>rt e (tP b i0) a))
theorem Gz:qC L190 190:=λh=>sd (hN 3 (zB (zA (zB (zF 0 [25] [0,1,4,7,23,24]))))) func190 h
def L194:Y1:=λa b c d=>lW c #[i0,i0,i0,vF] 224 λc e=>oP b λf=>Br f (Build zQ 224 [] λf=>St 4 e (pt c) f λf=>ax 4 f (pt c) λg=>rt d (tP g (iv 10)) f) (CR d a 71 #[b] e λe f=>lG e (iv 12) λe=>Br e (Build zQ 224 [] λe=>St 4 f (pt c) e λe=>ax 4 e (pt c) λg=>rt d (tP g (iv 6)) e) (CR d a 235 #[b] f λe f=>aE e λg=>yB [sZ,i0] f λf h i j k=>lL j g λg=>Br g (lI 1 e j k λe=>CR d a 236 #[b,e] k λe g=>lX e λe _=>lQ 2 g #[i0,sZ] 30 e λe g=>ax 2 g (pt e) λe=>aj zQ 96 1 [(0,e)] g λe g=>App zQ 30 2 32 (.agg #[i0,sZ]) g i e λe g=>lA j i1 λl=>az f h [e,l] g [i,j] k) (CR d a 107 #[b] k λe f=>CR d a 237 #[i] f λf g=>lX f λh i=>Ext 2 f λ_=>lE e h λf=>Br f (Build zQ 224 [(0,e),(1,e),(3,vT)] λf=>St 4 g (pt c) f λf=>ax 4 f (pt c) λh=>rt d (tP h i0) f) (CR d a 110 #[b,i] g λf g=>lX f λf h=>CR d a 107 #[b] g λa b=>lE h i0 λg=>Build zQ 224 [(0,e),(1,a),(2,f),(3,g)] λa=>St 4 b (pt c) a λa=>ax 4 a (pt c) λb=>rt d (tP b i0) a))))
theorem Gy:qB L194 194:=λh=>sd (hN 4 (zB (zA (zB (zF 0 [4,25] [0,2,23,24]))))) func194 h
def L197:Y1:=λa b c d=>Br vF (aH .u32 b λe=>CR d a 247 #[e] c λe f=>rt d e f) (CR d a 248 #[b] c λa b=>rt d a b)
theorem Gx:qB L197 197:=λh=>sd .e func197 h
def L198:Y4:=λa b c d e f g=>CR g a 167 #[b,c] f λf h=>Un .not f λf=>Br f (rt g (iv 2) h) (jB (λf i=>Br f (rt g (iv 3) i) (jB (λf j=>Br f (rt g (iv 4) j) (rt g i0 j)) λf=>DR i λj=>lN d e λk=>Br k (lM 6 b j λk=>lI 1 k c j λc=>∀k:Hp,
CN (a.add k) 249 #[b,d] i λk l=>aF l j/\
∀m:Hp,
CN (a.add m) 249 #[b,e] l λl m=>aF m j/\
LY k l λj=>oG c j λc=>aI vT c vF λc=>JE f [c] m) (JE f [vF] i))) λc=>lC 0 b λf=>CR g a 165 #[f,d] h λd f=>Un .not d λd=>Split d false (lC 0 b λb=>CR g a 165 #[b,e] f λa b=>Un .not a λa=>aI vF vT a λa=>JE c [a] b) (aI vT vT undef λa=>JE c [a] f))
theorem Gw:qE L198 198:=λh=>sd (zA (zB (zB (zA (zA (.h 1 [14] [0,1,2,3] .e (zA (zE 1 [29] [] (zE 1 [] [] (hr 0 [] 0 3 (.h 2 [3] [] (hr 0 [] 4 9 (hr 0 [] 14 2 (zE 0 [13] [] (hr 0 [] 16 5 .e)))) (hr 0 [] 4 15 (hr 3 [] 19 2 .e))))))))))))) func198 h
def L199:Y4:=λa b c d e f g=>lE d e λh=>Br h (rt g (tP d vT) f) (lC 0 b λb=>af 1 b λb=>Ld f b λb=>Build zQ 201 [(0,c),(1,d),(2,e)] λc=>CR g a 227 #[b,c] f λa b=>lX a λa c=>rt g (tP a c) b)
theorem Gv:qE L199 199:=λh=>sd .e func199 h
def L200:Y2:=λa b c d e=>lK d c 201 λc d=>DR d λf=>lM 0 b f λg=>ax 3 f (pt c) λh=>CN a 250 #[g,h] d λd g=>aF g f/\
lX d λd _=>∃(f:Jt) (h:Mt),JE f [] g/\∀g:Hp,f [] g->∀_:Fr,
aH .i64 d λi=>lM 2 b g λj=>aE j λj=>oG i j λi=>Br i (lM 2 b g λi=>aj zQ 115 1 [(0,(Value.int .i32 0))] g λj k=>App zQ 21 1 4 (Value.int .i32 0) k i j λi j=>lC 2 b λk=>St 1 j k i λi=>lM 3 b i λj=>aj zQ 115 1 [(0,(Value.int .i32 0))] i λi k=>App zQ 21 1 4 (Value.int .i32 0) k j i λi j=>lC 3 b λk=>St 1 j k i λi=>az f h [] i [] g) (DR g λf=>lM 2 b f λh=>lM 3 b f λf=>ah 1 h d λh=>St 1 g h (Value.int .i32 0) λg=>ah 1 f d λf=>St 1 g f (Value.int .i32 0) λf=>lD 1 (pt c) f λg=>CR e a 186 #[b,g] f λ_ f=>lD 2 (pt c) f λg=>CR e a 186 #[b,g] f λ_ f=>DR f λg=>lM 1 b g λb=>ax 3 g (pt c) λc=>CN a 188 #[b,c,d] f λ_ a=>rt e d a)
theorem Gu:qC L200 200:=λh=>sd (zA (.n (zF 0 (yR 11) []) (.n (zB (zF 0 [] [0,3,5])) (.n (zF 0 (yR 14) []) (zA (zA (zB (zF 0 (yR 7) [])))))))) func200 h
def L201:Y3:=λa b c d e f=>Ld e b λb=>Ld e c λg=>Ld e d λh=>CR f a 202 #[b,g,h] e λa b=>lX a λa e=>St 1 b c a λa=>St 1 a d e λa=>rt f (.tuple #[]) a
theorem C9(h:L201 g a0 a1 a2 H R):lJ zQ g 201 #[a0,a1,a2] H R:=
 DP (hn:=.e) func201 h zK
def L202:Y3:=λa b c d e f=>lE c (ui 0) λg=>lO g (λg=>lE c (ui 1) λh=>(lV e h g)) λg=>lM 2 b e λh=>aE h λi=>yB [(Value.bool g),i0] e λe g j k l=>lL k i λi=>Br i (jB (λi m=>lA k i1 λn=>az e g [i,n] m [j,k] l) λe=>lI 1 h k l λg=>lE g c λh=>lU h (λh=>Un .not j λi=>(lV l i h)) λh=>lU (Value.bool h) (λh=>lE d i0 λi=>(lV l i h)) λh=>Br (Value.bool h) (JE e [vT] l) (lM 0 b l λh=>CR f a 98 #[h,g] l λ_ g=>JE e [j] g)) (lC 2 b λe=>St 1 l e sZ λe=>jA (λg=>rt f (tP c i0) g) λg=>lN d i0 λh=>Br h (rt f (tP (ui 0) d) e) (Un .not j λd=>Br d (rt f (tP (ui 0) (iv 8)) e) (lE c (ui 0) λd=>lO d (λd=>lE c (ui 1) λh=>(lV e h d)) λd=>Br (Value.bool d) (lM 0 b e λb=>CR f a 153 #[b,c] e λ_ a=>JE g [] a) (JE g [] e))))
theorem Gt:qD L202 202:=λh=>sd (zA (.n (zF 0 [] [1]) (.n (zA (zB (zE 0 [8,22] [0,1,2,20,21] (zA (zA (zE 1 [8] [0,1,2,20,21,22] (zB (zA (zB (zB (zF 0 [] [1]))))))))))) (zA (zE 1 [] [1] (zB (hN 4 (zB (zF 0 [] [1]))))))))) func202 h
def L203:Y5:=λa b c d e f g h=>lK g b 237 λb g=>Ld g c λi=>ax 3 g (pt b) λj=>jN zQ 237 (ui 0) true g i j λi=>lX i λi j=>Br j (rt h (tP i i0) g) (Ld g d λi=>ax 3 g (pt b) λj=>CR h a 204 #[i,j] g λg i=>Ld i d λj=>CR h a 205 #[j,g] i λi j=>lL i i0 λk=>Br k (Ld j e λe=>fo 3 1 (pt b) i0 λk=>Ld j k λk=>lE k (ui 1) λk=>fo 3 1 (pt b) i1 λl=>Ld j l λl=>lE l (ui 1) λl=>fo 3 1 (pt b) (iv 2) λm=>Ld j m λm=>lE m (ui 1) λm=>bK zQ a e #[k,l,m] j (λe k=>Br e (rt h (tP (ui 1) i0) k) (rt h (tP (ui 0) i0) k)) (cv h)) (DR j λe=>ax 3 e (pt b) λk=>ax 3 e (pt b) λl=>lW j #[(ui 0),(ui 0),(ui 0)] 237 λj m=>lW m #[(ui 0),(ui 0),(ui 0)] 237 λm n=>∀_:Hp,
St 3 n (pt j) k λk=>aF k e/\
∀_:Hp,
St 3 k (pt m) l λe=>aE g λk=>yA [i0] e λe l n o=>lL n k λk=>Br k (jA (λk=>lA n i1 λp=>az e l [p] k [n] o) λe=>ah 3 g n λg=>ax 3 o g λg=>lQ 3 o nC 201 g λg k=>lD 0 (pt g) k λl=>lE l i λl=>Br l (DR k λl=>lD 1 (pt g) l λp=>lD 2 (pt g) l λg=>fo 3 1 (pt j) n λq=>St 1 k q p λp=>aF p l/\
fo 3 1 (pt m) n λl=>St 1 p l g λg=>JE e [] g) (JE e [] k)) (Ld o f λe=>ax 3 o (pt j) λg=>bK zQ a e #[g] o (λe g=>lX e λe j=>lN j i0 λk=>Br k (rt h (tP (ui 0) j) g) (Ld g f λf=>ax 3 g (pt m) λj=>bK zQ a f #[j] g (λf g=>lX f λf j=>lN j i0 λk=>Br k (rt h (tP (ui 0) j) g) (Ld g d λd=>CR h a 206 #[d,i,e,f] g λa d=>lX a λa e=>jA (λf=>rt h (tP a e) f) λf=>lE e i0 λe=>Br e (Ld d c λc=>ax 3 d (pt b) λb=>jM zQ 237 d c b a λa=>JE f [] a) (JE f [] d))) (cv h))) (cv h))))
theorem we:qF L203 203:=λh=>sd (hN 5 (.n (zE 1 [] [] (hr 0 [] 0 2 (hr 1 [] 2 2 (hr 0 [] 2 4 .e)))) (.n (zA (zB (zE 0 [51] [1,2,4,5,11,12,13,49,50] (zA (zA (zE 1 [] [1,2,4,5,11,12,13,49,50,51] (zB (zA (zA (zB (zF 0 (yR 10) []))))))))))) (hN 5 (zF 1 [] [17,19]))))) func203 h
def L204:Y2:=λa b c d e=>lK d c 237 λc d=>ax 3 d (pt c) λc=>yB [sZ,i0] d λd f g h i=>lL h (iv 3) λj=>Br j (aZ zQ a (bM Tryz.f204 4 0) (ev (λj=>cond (Nat.beq j 10) c (cond (Nat.beq j 11) h (undef)))) i λc=>lM 0 b i λb=>CR e a 129 #[b,c] i λa b=>lX a λa _=>lQ 3 b nC 201 a λa b=>ax 3 b (pt a) λa=>aj zQ 293 1 [(0,a)] b λa b=>App zQ 201 3 16 (.agg nC) b g a λa b=>lA h i1 λc=>az d f [a,c] b [g,h] i) (rt e g i)
theorem Gs:qC L204 204:=λh=>sd (zA (zA (zB (zA (zB (zF 0 [5,11] [0,10])))))) func204 h
def L205:Y2:=λ_ a b c d=>aE b λe=>yB [(iv (-1)),i0] c λc f g h i=>lL h e λe=>Br e (jB (λe j=>lA h i1 λk=>az c f [e,k] j [g,h] i) λc=>ah 3 b h λb=>ax 3 i b λb=>lQ 3 i nC 201 b λb e=>lD 0 (pt b) e λf=>oG f i0 λf=>lU f (λf=>lL g i0 λh=>cz h false (λh=>lM 1 a e λj=>lD 0 (pt b) e λk=>lI 1 j k e λj=>lM 1 a e λa=>lI 1 a g e λa=>lL j a λa=>(lV e a h)) (λh=>vT=Value.bool h) λh=>∀_:Fr,
(lV e (Value.bool h) f)) λf=>Br (Value.bool f) (lD 0 (pt b) e λa=>JE c [a] e) (JE c [g] e)) (rt d g i)
theorem Gq:qC L205 205:=λh=>sd (zA (zA (zB (zA (zB (zE 0 [5,10] [0,8,9] (zA (zA (zF 1 [5] [0,8,9,10]))))))))) func205 h
def L206:Y4:=λa b c d e f g=>lE d e λh=>Br h (rt g (tP d i0) f) (lM 0 b f λh=>CR g a 154 #[h,c,d,e] f λf h=>lX f λf i=>jA (λj=>rt g (tP (ui 0) i) j) λj=>lE i i0 λk=>Br k (lM 2 b h λk=>aj zQ 189 1 [(0,f)] h λl m=>App zQ 80 1 4 (ui 0) m k l λk l=>lC 2 b λm=>St 1 l m k λk=>rt g (tP f i0) k) (lE i (iv 8) λf=>Br f (lM 0 b h λb=>CR g a 251 #[b,c,d,e] h λa b=>lX a λa c=>Br c (rt g (tP a i0) b) (JE j [] b)) (JE j [] h)))
theorem wc:qE L206 206:=λh=>sd (hN 3 (zF 1 [] [11])) func206 h
def L207:Y5:=λa b c d e f g h=>CR h a 133 #[b] g λg i=>lO g (λg=>Ld i c λj=>jE (.int .u32) i0 false i j b λj=>lG j i0 λj=>(lV i j g)) λg=>Br (Value.bool g) (rt h (.tuple #[]) i) (Ld i c λc=>dJ (.int .u32) i c b i1 λc=>Ld c d λd=>CR h a 134 #[d,b] c λb c=>lQ 3 c nC 201 b λb c=>Ld c e λd=>ax 3 c (pt b) λe=>bK zQ a d #[e] c (λ_ c=>Ld c f λd=>lD 1 (pt b) c λe=>bK zQ a d #[e] c (λ_ c=>Ld c f λd=>lD 2 (pt b) c λb=>bK zQ a d #[b] c (λ_ a=>rt h (.tuple #[]) a) (cv h)) (cv h)) (cv h))
theorem v9:qF L207 207:=λh=>sd (zB (zB (zF 0 [] [1]))) func207 h
def L208:Y2:=λa b c d e=>lW d nC 201 λd f=>oP b λg=>Br g (Build zQ 201 [] λg=>St 3 f (pt d) g λg=>ax 3 g (pt d) λh=>rt e (tP h (iv 10)) g) (CR e a 252 #[b,c] f λa f=>Un .not a λa=>Br a (Build zQ 201 [] λa=>St 3 f (pt d) a λa=>ax 3 a (pt d) λg=>rt e (tP g (iv 3)) a) (lM 1 b f λa=>ah 5 a c λa=>af 0 a λa=>ax 3 f a λa=>St 3 f (pt d) a λa=>ax 3 a (pt d) λb=>rt e (tP b i0) a))
theorem Gp:qC L208 208:=λh=>sd .e func208 h
def L209:Y2:=λ_ a b c d=>oP a λe=>Br e (rt d (iv 10) c) (lL b i0 λe=>lO e (λe=>lM 0 a c λa=>aE a λa=>oG b a λa=>(lV c a e)) λe=>Br (Value.bool e) (rt d (iv 2) c) (rt d i0 c))
theorem Gn:qC L209 209:=λh=>sd (zA (zB (zB (zA (zA (zB (zF 0 [] [1]))))))) func209 h
def L210:Y2:=λa b c d e=>jB (λf g=>Br f (rt e (iv 3) g) (rt e i0 g)) λf=>oQ c (ui 1) λg=>Split g false (CR e a 252 #[b,c] d λa b=>Un .not a λa=>aI vF vT a λa=>JE f [a] b) (aI vT vT undef λa=>JE f [a] d)
theorem Gm:qC L210 210:=λh=>sd (zA (zB (zF 1 [12] []))) func210 h
def L211:Y1:=λa b c d=>lL b (iv 10) λe=>Br e (lA b i1 λe=>aZ zQ a (bM Tryz.f211 2 3) (ev (λf=>cond (Nat.beq f 5) b (cond (Nat.beq f 7) e (undef)))) c λe=>rt d e c) (oM b (iv 2) λe=>oM b (iv 2) λb=>lA b (iv 2) λb=>aZ zQ a (bM Tryz.f211 3 5) (ev (λf=>cond (Nat.beq f 10) e (cond (Nat.beq f 13) b (undef)))) c λa=>rt d a c)
theorem vZ:qB L211 211:=λh=>sd .e func211 h
def L212:Y1:=λa b c d=>CR d a 248 #[b] c λc e=>CR d a 253 #[c] e λc e=>fo 20 1 (.pointer (some ⟨1,0,none⟩)) c λf=>Ld e f λf=>oG b f λb=>CR d a 254 #[b] e λa b=>lA c a λa=>rt d a b
theorem Gk:qB L212 212:=λh=>sd .e func212 h
def L213:Y2:=λ_ a b c d=>aE a λe=>yB [b,e] c λb c e f g=>oG f (iv 8) λh=>Br h (ae .num .rem e (wi 100000000) λh=>aH .u32 h λh=>ae .num .quo e (wi 100000000) λi=>ae .num .quo h (ui 10000) λj=>ae .num .rem h (ui 10000) λh=>ae .num .quo h (ui 100) λk=>oM k (ui 2) λk=>ae .num .rem h (ui 100) λh=>oM h (ui 2) λh=>ae .num .quo j (ui 100) λl=>oM l (ui 2) λl=>ae .num .rem j (ui 100) λj=>oM j (ui 2) λj=>DR g λm=>lS f i1 λn=>lS f (iv 2) λo=>lA h (ui 1) λp=>bP (.string (ByteArray.mk #[48,48,48,49,48,50,48,51,48,52,48,53,48,54,48,55,48,56,48,57,49,48,49,49,49,50,49,51,49,52,49,53,49,54,49,55,49,56,49,57,50,48,50,49,50,50,50,51,50,52,50,53,50,54,50,55,50,56,50,57,51,48,51,49,51,50,51,51,51,52,51,53,51,54,51,55,51,56,51,57,52,48,52,49,52,50,52,51,52,52,52,53,52,54,52,55,52,56,52,57,53,48,53,49,53,50,53,51,53,52,53,53,53,54,53,55,53,56,53,57,54,48,54,49,54,50,54,51,54,52,54,53,54,54,54,55,54,56,54,57,55,48,55,49,55,50,55,51,55,52,55,53,55,54,55,55,55,56,55,57,56,48,56,49,56,50,56,51,56,52,56,53,56,54,56,55,56,56,56,57,57,48,57,49,57,50,57,51,57,52,57,53,57,54,57,55,57,56,57,57])) p λp=>bP (.string (ByteArray.mk #[48,48,48,49,48,50,48,51,48,52,48,53,48,54,48,55,48,56,48,57,49,48,49,49,49,50,49,51,49,52,49,53,49,54,49,55,49,56,49,57,50,48,50,49,50,50,50,51,50,52,50,53,50,54,50,55,50,56,50,57,51,48,51,49,51,50,51,51,51,52,51,53,51,54,51,55,51,56,51,57,52,48,52,49,52,50,52,51,52,52,52,53,52,54,52,55,52,56,52,57,53,48,53,49,53,50,53,51,53,52,53,53,53,54,53,55,53,56,53,57,54,48,54,49,54,50,54,51,54,52,54,53,54,54,54,55,54,56,54,57,55,48,55,49,55,50,55,51,55,52,55,53,55,54,55,55,55,56,55,57,56,48,56,49,56,50,56,51,56,52,56,53,56,54,56,55,56,56,56,57,57,48,57,49,57,50,57,51,57,52,57,53,57,54,57,55,57,56,57,57])) h λh=>ah 1 a n λn=>St 1 g n p λn=>aF n m/\
ah 1 a o λm=>St 1 n m h λh=>DR h λm=>lS f (iv 3) λn=>lS f (iv 4) λo=>lA k (ui 1) λp=>bP (.string (ByteArray.mk #[48,48,48,49,48,50,48,51,48,52,48,53,48,54,48,55,48,56,48,57,49,48,49,49,49,50,49,51,49,52,49,53,49,54,49,55,49,56,49,57,50,48,50,49,50,50,50,51,50,52,50,53,50,54,50,55,50,56,50,57,51,48,51,49,51,50,51,51,51,52,51,53,51,54,51,55,51,56,51,57,52,48,52,49,52,50,52,51,52,52,52,53,52,54,52,55,52,56,52,57,53,48,53,49,53,50,53,51,53,52,53,53,53,54,53,55,53,56,53,57,54,48,54,49,54,50,54,51,54,52,54,53,54,54,54,55,54,56,54,57,55,48,55,49,55,50,55,51,55,52,55,53,55,54,55,55,55,56,55,57,56,48,56,49,56,50,56,51,56,52,56,53,56,54,56,55,56,56,56,57,57,48,57,49,57,50,57,51,57,52,57,53,57,54,57,55,57,56,57,57])) p λp=>bP (.string (ByteArray.mk #[48,48,48,49,48,50,48,51,48,52,48,53,48,54,48,55,48,56,48,57,49,48,49,49,49,50,49,51,49,52,49,53,49,54,49,55,49,56,49,57,50,48,50,49,50,50,50,51,50,52,50,53,50,54,50,55,50,56,50,57,51,48,51,49,51,50,51,51,51,52,51,53,51,54,51,55,51,56,51,57,52,48,52,49,52,50,52,51,52,52,52,53,52,54,52,55,52,56,52,57,53,48,53,49,53,50,53,51,53,52,53,53,53,54,53,55,53,56,53,57,54,48,54,49,54,50,54,51,54,52,54,53,54,54,54,55,54,56,54,57,55,48,55,49,55,50,55,51,55,52,55,53,55,54,55,55,55,56,55,57,56,48,56,49,56,50,56,51,56,52,56,53,56,54,56,55,56,56,56,57,57,48,57,49,57,50,57,51,57,52,57,53,57,54,57,55,57,56,57,57])) k λk=>ah 1 a n λn=>St 1 h n p λh=>aF h m/\
ah 1 a o λm=>St 1 h m k λh=>DR h λk=>lS f (iv 5) λm=>lS f (iv 6) λn=>lA j (ui 1) λo=>bP (.string (ByteArray.mk #[48,48,48,49,48,50,48,51,48,52,48,53,48,54,48,55,48,56,48,57,49,48,49,49,49,50,49,51,49,52,49,53,49,54,49,55,49,56,49,57,50,48,50,49,50,50,50,51,50,52,50,53,50,54,50,55,50,56,50,57,51,48,51,49,51,50,51,51,51,52,51,53,51,54,51,55,51,56,51,57,52,48,52,49,52,50,52,51,52,52,52,53,52,54,52,55,52,56,52,57,53,48,53,49,53,50,53,51,53,52,53,53,53,54,53,55,53,56,53,57,54,48,54,49,54,50,54,51,54,52,54,53,54,54,54,55,54,56,54,57,55,48,55,49,55,50,55,51,55,52,55,53,55,54,55,55,55,56,55,57,56,48,56,49,56,50,56,51,56,52,56,53,56,54,56,55,56,56,56,57,57,48,57,49,57,50,57,51,57,52,57,53,57,54,57,55,57,56,57,57])) o λo=>bP (.string (ByteArray.mk #[48,48,48,49,48,50,48,51,48,52,48,53,48,54,48,55,48,56,48,57,49,48,49,49,49,50,49,51,49,52,49,53,49,54,49,55,49,56,49,57,50,48,50,49,50,50,50,51,50,52,50,53,50,54,50,55,50,56,50,57,51,48,51,49,51,50,51,51,51,52,51,53,51,54,51,55,51,56,51,57,52,48,52,49,52,50,52,51,52,52,52,53,52,54,52,55,52,56,52,57,53,48,53,49,53,50,53,51,53,52,53,53,53,54,53,55,53,56,53,57,54,48,54,49,54,50,54,51,54,52,54,53,54,54,54,55,54,56,54,57,55,48,55,49,55,50,55,51,55,52,55,53,55,54,55,55,55,56,55,57,56,48,56,49,56,50,56,51,56,52,56,53,56,54,56,55,56,56,56,57,57,48,57,49,57,50,57,51,57,52,57,53,57,54,57,55,57,56,57,57])) j λj=>ah 1 a m λm=>St 1 h m o λh=>aF h k/\
ah 1 a n λk=>St 1 h k j λh=>DR h λj=>lS f (iv 7) λk=>lS f (iv 8) λm=>lA l (ui 1) λn=>bP (.string (ByteArray.mk #[48,48,48,49,48,50,48,51,48,52,48,53,48,54,48,55,48,56,48,57,49,48,49,49,49,50,49,51,49,52,49,53,49,54,49,55,49,56,49,57,50,48,50,49,50,50,50,51,50,52,50,53,50,54,50,55,50,56,50,57,51,48,51,49,51,50,51,51,51,52,51,53,51,54,51,55,51,56,51,57,52,48,52,49,52,50,52,51,52,52,52,53,52,54,52,55,52,56,52,57,53,48,53,49,53,50,53,51,53,52,53,53,53,54,53,55,53,56,53,57,54,48,54,49,54,50,54,51,54,52,54,53,54,54,54,55,54,56,54,57,55,48,55,49,55,50,55,51,55,52,55,53,55,54,55,55,55,56,55,57,56,48,56,49,56,50,56,51,56,52,56,53,56,54,56,55,56,56,56,57,57,48,57,49,57,50,57,51,57,52,57,53,57,54,57,55,57,56,57,57])) n λn=>bP (.string (ByteArray.mk #[48,48,48,49,48,50,48,51,48,52,48,53,48,54,48,55,48,56,48,57,49,48,49,49,49,50,49,51,49,52,49,53,49,54,49,55,49,56,49,57,50,48,50,49,50,50,50,51,50,52,50,53,50,54,50,55,50,56,50,57,51,48,51,49,51,50,51,51,51,52,51,53,51,54,51,55,51,56,51,57,52,48,52,49,52,50,52,51,52,52,52,53,52,54,52,55,52,56,52,57,53,48,53,49,53,50,53,51,53,52,53,53,53,54,53,55,53,56,53,57,54,48,54,49,54,50,54,51,54,52,54,53,54,54,54,55,54,56,54,57,55,48,55,49,55,50,55,51,55,52,55,53,55,54,55,55,55,56,55,57,56,48,56,49,56,50,56,51,56,52,56,53,56,54,56,55,56,56,56,57,57,48,57,49,57,50,57,51,57,52,57,53,57,54,57,55,57,56,57,57])) l λl=>ah 1 a k λk=>St 1 h k n λh=>aF h j/\
ah 1 a m λj=>St 1 h j l λh=>lS f (iv 8) λj=>az b c [i,j] h [e,f] g) (aH .u32 e λb=>jC (λc e h=>jC (λi j k=>lG i i0 λi=>Br i (lA (ui 48) j λi=>aH .u8 i λi=>ah 1 a i0 λj=>St 1 k j i λi=>rt d (.tuple #[]) i) (rt d (.tuple #[]) k)) λd=>oG c (iv 2) λi=>Br i (ae .num .rem e (ui 100) λi=>oM i (ui 2) λi=>ae .num .quo e (ui 100) λj=>DR h λk=>lS c i1 λl=>lS c (iv 2) λm=>lA i (ui 1) λn=>bP (.string (ByteArray.mk #[48,48,48,49,48,50,48,51,48,52,48,53,48,54,48,55,48,56,48,57,49,48,49,49,49,50,49,51,49,52,49,53,49,54,49,55,49,56,49,57,50,48,50,49,50,50,50,51,50,52,50,53,50,54,50,55,50,56,50,57,51,48,51,49,51,50,51,51,51,52,51,53,51,54,51,55,51,56,51,57,52,48,52,49,52,50,52,51,52,52,52,53,52,54,52,55,52,56,52,57,53,48,53,49,53,50,53,51,53,52,53,53,53,54,53,55,53,56,53,57,54,48,54,49,54,50,54,51,54,52,54,53,54,54,54,55,54,56,54,57,55,48,55,49,55,50,55,51,55,52,55,53,55,54,55,55,55,56,55,57,56,48,56,49,56,50,56,51,56,52,56,53,56,54,56,55,56,56,56,57,57,48,57,49,57,50,57,51,57,52,57,53,57,54,57,55,57,56,57,57])) n λn=>bP (.string (ByteArray.mk #[48,48,48,49,48,50,48,51,48,52,48,53,48,54,48,55,48,56,48,57,49,48,49,49,49,50,49,51,49,52,49,53,49,54,49,55,49,56,49,57,50,48,50,49,50,50,50,51,50,52,50,53,50,54,50,55,50,56,50,57,51,48,51,49,51,50,51,51,51,52,51,53,51,54,51,55,51,56,51,57,52,48,52,49,52,50,52,51,52,52,52,53,52,54,52,55,52,56,52,57,53,48,53,49,53,50,53,51,53,52,53,53,53,54,53,55,53,56,53,57,54,48,54,49,54,50,54,51,54,52,54,53,54,54,54,55,54,56,54,57,55,48,55,49,55,50,55,51,55,52,55,53,55,54,55,55,55,56,55,57,56,48,56,49,56,50,56,51,56,52,56,53,56,54,56,55,56,56,56,57,57,48,57,49,57,50,57,51,57,52,57,53,57,54,57,55,57,56,57,57])) i λi=>ah 1 a l λl=>St 1 h l n λl=>aF l k/\
ah 1 a m λk=>St 1 l k i λi=>lS c (iv 2) λk=>JE d [k,j] i) (JE d [c,e] h)) λc=>oG f (iv 4) λd=>Br d (ae .num .rem b (ui 10000) λd=>ae .num .quo b (ui 10000) λe=>ae .num .quo d (ui 100) λh=>oM h (ui 2) λh=>ae .num .rem d (ui 100) λd=>oM d (ui 2) λd=>DR g λi=>lS f i1 λj=>lS f (iv 2) λk=>lA d (ui 1) λl=>bP (.string (ByteArray.mk #[48,48,48,49,48,50,48,51,48,52,48,53,48,54,48,55,48,56,48,57,49,48,49,49,49,50,49,51,49,52,49,53,49,54,49,55,49,56,49,57,50,48,50,49,50,50,50,51,50,52,50,53,50,54,50,55,50,56,50,57,51,48,51,49,51,50,51,51,51,52,51,53,51,54,51,55,51,56,51,57,52,48,52,49,52,50,52,51,52,52,52,53,52,54,52,55,52,56,52,57,53,48,53,49,53,50,53,51,53,52,53,53,53,54,53,55,53,56,53,57,54,48,54,49,54,50,54,51,54,52,54,53,54,54,54,55,54,56,54,57,55,48,55,49,55,50,55,51,55,52,55,53,55,54,55,55,55,56,55,57,56,48,56,49,56,50,56,51,56,52,56,53,56,54,56,55,56,56,56,57,57,48,57,49,57,50,57,51,57,52,57,53,57,54,57,55,57,56,57,57])) l λl=>bP (.string (ByteArray.mk #[48,48,48,49,48,50,48,51,48,52,48,53,48,54,48,55,48,56,48,57,49,48,49,49,49,50,49,51,49,52,49,53,49,54,49,55,49,56,49,57,50,48,50,49,50,50,50,51,50,52,50,53,50,54,50,55,50,56,50,57,51,48,51,49,51,50,51,51,51,52,51,53,51,54,51,55,51,56,51,57,52,48,52,49,52,50,52,51,52,52,52,53,52,54,52,55,52,56,52,57,53,48,53,49,53,50,53,51,53,52,53,53,53,54,53,55,53,56,53,57,54,48,54,49,54,50,54,51,54,52,54,53,54,54,54,55,54,56,54,57,55,48,55,49,55,50,55,51,55,52,55,53,55,54,55,55,55,56,55,57,56,48,56,49,56,50,56,51,56,52,56,53,56,54,56,55,56,56,56,57,57,48,57,49,57,50,57,51,57,52,57,53,57,54,57,55,57,56,57,57])) d λd=>ah 1 a j λj=>St 1 g j l λj=>aF j i/\
ah 1 a k λi=>St 1 j i d λd=>DR d λi=>lS f (iv 3) λj=>lS f (iv 4) λk=>lA h (ui 1) λl=>bP (.string (ByteArray.mk #[48,48,48,49,48,50,48,51,48,52,48,53,48,54,48,55,48,56,48,57,49,48,49,49,49,50,49,51,49,52,49,53,49,54,49,55,49,56,49,57,50,48,50,49,50,50,50,51,50,52,50,53,50,54,50,55,50,56,50,57,51,48,51,49,51,50,51,51,51,52,51,53,51,54,51,55,51,56,51,57,52,48,52,49,52,50,52,51,52,52,52,53,52,54,52,55,52,56,52,57,53,48,53,49,53,50,53,51,53,52,53,53,53,54,53,55,53,56,53,57,54,48,54,49,54,50,54,51,54,52,54,53,54,54,54,55,54,56,54,57,55,48,55,49,55,50,55,51,55,52,55,53,55,54,55,55,55,56,55,57,56,48,56,49,56,50,56,51,56,52,56,53,56,54,56,55,56,56,56,57,57,48,57,49,57,50,57,51,57,52,57,53,57,54,57,55,57,56,57,57])) l λl=>bP (.string (ByteArray.mk #[48,48,48,49,48,50,48,51,48,52,48,53,48,54,48,55,48,56,48,57,49,48,49,49,49,50,49,51,49,52,49,53,49,54,49,55,49,56,49,57,50,48,50,49,50,50,50,51,50,52,50,53,50,54,50,55,50,56,50,57,51,48,51,49,51,50,51,51,51,52,51,53,51,54,51,55,51,56,51,57,52,48,52,49,52,50,52,51,52,52,52,53,52,54,52,55,52,56,52,57,53,48,53,49,53,50,53,51,53,52,53,53,53,54,53,55,53,56,53,57,54,48,54,49,54,50,54,51,54,52,54,53,54,54,54,55,54,56,54,57,55,48,55,49,55,50,55,51,55,52,55,53,55,54,55,55,55,56,55,57,56,48,56,49,56,50,56,51,56,52,56,53,56,54,56,55,56,56,56,57,57,48,57,49,57,50,57,51,57,52,57,53,57,54,57,55,57,56,57,57])) h λh=>ah 1 a j λj=>St 1 d j l λd=>aF d i/\
ah 1 a k λa=>St 1 d a h λa=>lS f (iv 4) λd=>JE c [d,e] a) (JE c [f,b] g))
theorem pn:qC L213 213:=λh=>sd (zA (.n (zB (zE 0 [1,4] [0] (zA (zB (hN 5 (.n (zF 0 (yR 15) []) (.n (zF 0 (yR 15) []) (.n (zF 0 (yR 15) []) (zB (zF 0 (yR 15) [])))))))))) (zA (.h 1 [4,12] [0] (zA (zB (hN 3 (.n (zF 0 (yR 15) []) (zB (zF 0 (yR 15) [])))))) (zE 1 [4,12] [0] (zA (zB (zA (zA (zB (zF 0 (yR 15) []))))))))))) func213 h
def L222:Y1:=λ_ a b c=>oP a λd=>Br d (rt c i0 b) (lM 7 a b λa=>aE a λa=>rt c a b)
theorem Gj:qB L222 222:=λh=>sd .e func222 h
def L223:Y1:=λa b c d=>DR c λe=>lM 0 b e λf=>lM 1 b e λg=>CN a 257 #[f,g] c λa c=>aF c e/\
lX a λa _=>lM 2 b c λe=>lA e a λa=>lC 2 b λb=>St 1 c b a λa=>rt d (.tuple #[]) a
theorem Gi:qB L223 223:=λh=>sd (zB (zF 0 (yR 14) [])) func223 h
def L224:Y2:=λa b c d e=>CR e a 209 #[b,c] d λd f=>lN d i0 λg=>Br g (rt e (tP sZ d) f) (lM 0 b f λb=>lI 1 b c f λb=>CR e a 259 #[b] f λb c=>CR e a 258 #[b] c λa b=>rt e (tP a i0) b)
theorem Gg:qC L224 224:=λh=>sd .e func224 h
def L225:Y3:=λa b c d e f=>lC 0 b λb=>CR f a 162 #[b,c] e λa b=>lQ 3 b nC 201 a λa b=>lD 0 (pt a) b λe=>lE e d λd=>Br d (lD 1 (pt a) b λd=>lD 2 (pt a) b λa=>rt f (tP d a) b) (rt f (tP c c) b)
theorem Gf:qD L225 225:=λh=>sd .e func225 h
def L226:Y1:=λ_ a b c=>oP a λd=>Br d (rt c i0 b) (lM 0 a b λa=>rt c a b)
theorem Ge:qB L226 226:=λh=>sd .e func226 h
def L227:Y2:=λa b c d e=>lK d c 201 λc d=>lD 0 (pt c) d λf=>CR e a 209 #[b,f] d λa d=>lN a i0 λa=>Br a (rt e (tP (ui 0) vF) d) (lM 0 b d λa=>lD 0 (pt c) d λb=>lI 1 a b d λa=>ax 3 d (pt c) λb=>jN zQ 201 (ui 0) true d a b λa=>lX a λa b=>rt e (tP a b) d)
theorem Gd:qC L227 227:=λh=>sd .e func227 h
def L228:Y2:=λa b c d e=>lK d c 201 λc d=>lD 0 (pt c) d λf=>lL f i0 λf=>lO f (λf=>lD 0 (pt c) d λg=>oG g (iv 64) λg=>(lV d g f)) λf=>Br (Value.bool f) (rt e (iv 2) d) (jB (λf g=>Br f (rt e (iv 3) g) (rt e i0 g)) λf=>lD 1 (pt c) d λg=>CR e a 252 #[b,g] d λd g=>Un .not d λd=>Split d false (lD 2 (pt c) g λc=>CR e a 252 #[b,c] g λa b=>Un .not a λa=>aI vF vT a λa=>JE f [a] b) (aI vT vT undef λa=>JE f [a] g))
theorem Gc:qC L228 228:=λh=>sd (zA (zB (zB (.n (zF 0 [] [1]) (zA (zF 1 [14] [])))))) func228 h
def L229:Y2:=λ_ a b c d=>oP a λa=>Br a (rt d (iv 10) c) (lL b (iv 100) λa=>lO a (λa=>lG b (iv 1000) λb=>(lV c b a)) λa=>Br (Value.bool a) (rt d i1 c) (rt d i0 c))
theorem Gb:qC L229 229:=λh=>sd (zA (zB (zB (zA (zA (zB (zF 0 [] [1]))))))) func229 h
def L230:Y1:=λa b c d=>oP b λe=>Br e (rt d sZ c) (CR d a 260 #[] c λc e=>CR d a 71 #[b] e λe f=>yA [i0] f λf g h i=>lL h e λe=>Br e (CR d a 261 #[b,h] i λb e=>lX b λb _=>Un .neg b λb=>CR d a 262 #[c,h,b] e λ_ b=>lA h i1 λe=>az f g [e] b [h] i) (yA [sZ] i λb e f g=>CR d a 263 #[c] g λh i=>lG h i0 λh=>Br h (CR d a 264 #[c] i λa c=>lX a λh _=>Ext 2 a λ_=>aj zQ 108 1 [(0,h)] c λa c=>App zQ 3 1 8 i0 c f a λa c=>az b e [a] c [f] g) (rt d f i)))
theorem Ga:qB L230 230:=λh=>sd (hN 3 (.n (zA (zB (zF 0 [16] [0,3,15]))) (zA (zB (zB (zF 0 [7] [3])))))) func230 h
def L231:Y3:=λa b c d e f=>lW e #[i0,i0,i0,vF] 224 λe g=>CR f a 229 #[b,d] g λg h=>lN g i0 λi=>Br i (Build zQ 224 [] λi=>St 4 h (pt e) i λi=>ax 4 i (pt e) λj=>rt f (tP j g) i) (CR f a 136 #[b,c] h λc g=>lX c λc h=>lN h i0 λi=>Br i (Build zQ 224 [] λi=>St 4 g (pt e) i λi=>ax 4 i (pt e) λj=>rt f (tP j h) i) (CR f a 107 #[b] g λg h=>Build zQ 224 [(0,g)] λg=>lQ 4 h #[i0,i0,i0,vF] 224 g λg h=>lD 0 (pt g) h λi=>Build zQ 350 [(0,b),(1,c),(2,i),(3,c),(4,d)] λd=>lK h d 350 λd h=>CR f a 71 #[b] h λh i=>lS h i1 λh=>lS h c λh=>oQ h c λh=>CR f a 265 #[(pt d),h] i λ_ i=>CR f a 266 #[(pt d)] i λ_ i=>CR f a 267 #[(pt d),c] i λ_ i=>lM 3 (pt d) i λj=>Un .not h λk=>CR f a 265 #[(pt d),k] i λ_ i=>CR f a 266 #[(pt d)] i λ_ i=>jA (λk=>DR k λl=>lM 5 (pt d) l λm=>∀n:Hp,
CN (a.add n) 107 #[b] k λb k=>aF k l/\
af 1 (pt g) λn=>∀_:Hp,
St 1 k n b λb=>aF b l/\
af 2 (pt g) λk=>∀_:Hp,
St 1 b k m λb=>ax 4 b (pt g) λg=>St 4 b (pt e) g λb=>ax 4 b (pt e) λe=>rt f (tP e i0) b) λb=>lM 3 (pt d) i λe=>lN e j λe=>Br e (lM 3 (pt d) i λe=>CR f a 267 #[(pt d),e] i λ_ e=>JE b [] e) (CR f a 267 #[(pt d),c] i λ_ c=>CR f a 265 #[(pt d),h] c λ_ c=>∃(e:Jt) (f:Mt),JE e [] c/\∀c:Hp,e [] c->∀_:Fr,
jB (λg h=>Br g (az e f [] h [] c) (JE b [] h)) λb=>DR c λe=>lM 1 (pt d) e λf=>lM 3 (pt d) e λg=>lN f g λf=>Br f (lM 7 (pt d) e λd=>∀e:Hp,
bK zQ (a.add e) d #[] c (λa d=>lE a i0 λa=>aI vT a vF λa=>JE b [a] d) gu) (JE b [vF] c))))
theorem F9:qD L231 231:=λh=>sd (hN 13 (.h 1 [] [0,6,11,12] (hN 4 (zB (zE 0 [] [0,6,11,12] (zB (zE 1 [102] [0,6,11,12] (zE 1 [] [] (hr 0 [1] 0 9 (.h 2 [9] [] (hr 0 [1] 10 7 .e) (hr 0 [1] 10 6 (zF 3 [16] [1])))))))))) (zB (zE 1 [] [] (zE 0 [0] [1] (hr 0 [1] 2 4 (zE 0 [1] [1] (hr 0 [1] 6 4 .e)))))))) func231 h
variable {g:Gh} {a0 a1 a2 a3 a4 a5 a6 a7 a8 a9 sK sJ ZF ZE ZD ZC:zV} {H:Hp} {R:Rt}
def L235:Y1:=λ_ a b c=>oP a λd=>Br d (rt c sZ b) (lC 0 a λa=>af 3 a λa=>Ld b a λa=>aE a λd=>yB [sZ,i0] b λb e f g h=>lL g d λd=>Br d (jB (λd i=>lA g i1 λj=>az b e [d,j] i [f,g] h) λb=>lI 1 a g h λa=>lG a (Value.int .i32 0) λa=>Br a (aH .u32 g λa=>aj zQ 189 1 [(0,a)] h λa d=>App zQ 80 1 4 (ui 0) d f a λa d=>JE b [a] d) (JE b [f] h)) (rt c f h))
theorem F8:qB L235 235:=λh=>sd (hN 3 (zB (zA (zB (zE 0 [3,14] [12,13] (zA (zA (zF 1 [3] [12,13,14])))))))) func235 h
def L236:Y2:=λa b c d e=>lW d #[i0,sZ] 30 λd f=>aj zQ 189 1 [(0,c)] f λf g=>CR e a 132 #[b,f] g λf g=>lN f i0 λh=>Br h (Build zQ 30 [] λh=>St 2 g (pt d) h λh=>ax 2 h (pt d) λi=>rt e (tP i f) h) (CR e a 71 #[b] g λf g=>lQ 1 g #[i0] 3 f λf g=>Ld g (pt f) λh=>lG h (iv 16) λh=>Br h (Build zQ 30 [] λh=>St 2 g (pt d) h λh=>ax 2 h (pt d) λi=>rt e (tP i (iv 6)) h) (Ld g (pt f) λh=>CR e a 36 #[h,vF] g λg h=>lX g λg _=>lQ 2 h #[i0,sZ] 30 g λg h=>Ld h (pt f) λi=>CR e a 36 #[i,vT] h λh i=>lX h λh _=>lQ 2 i #[i0,sZ] 30 h λh i=>ax 2 i (pt g) λg=>ax 2 i (pt h) λh=>CR e a 272 #[b,c,g,h,(.func (.func 273) #[] #[(pt f)])] i λa b=>St 2 b (pt d) a λa=>ax 2 a (pt d) λb=>rt e (tP b i0) a))
theorem F6:qC L236 236:=λh=>sd .e func236 h
def L237:Y1:=λa b c d=>CR d a 274 #[b] c λb c=>lX b λb e=>lN e i0 λf=>Br f (rt d (.tuple #[i0,sZ,e]) c) (lM 1 b c λe=>lG e (iv 12) λe=>Br e (rt d (.tuple #[i0,sZ,(iv 6)]) c) (yB [sZ,i0] c λc e f g h=>aE f λi=>lM 1 b h λj=>lL i j λi=>Br i (lM 1 b h λi=>∃(j:Jt) (k:Mt),JE j [f,g,i0] h/\∀l m n:zV,∀o:Hp,j [l,m,n] o->∀_:Fr,
lL n i λi=>Br i (jB (λi p=>Br i (aj zQ 108 1 [(0,n)] p λi q=>App zQ 3 1 8 i0 q l i λi q=>oL i1 n λr=>oO m r λr=>az c e [i,r] q [f,g] h) (lA n i1 λi=>az j k [l,m,i] p [l,m,n] o)) λi=>DR o λ_=>oR m n λj=>oA j i1 λj=>lE j i0 λj=>Br j (oL i1 n λj=>oO m j λj=>∀k:Hp,
CN (a.add k) 275 #[b,m,n] o λk n=>∀p:Hp,
CN (a.add p) 276 #[b,j] n λj n=>lA k j λj=>∀k:Hp,
CN (a.add k) 276 #[b,m] n λk n=>lE j k λj=>aI vT j vF λj=>JE i [j] n) (JE i [vF] o)) (az c e [l,m] o [f,g] h)) (CR d a 276 #[b,i0] h λa b=>rt d (.tuple #[a,f,i0]) b)))
theorem F5:qB L237 237:=λh=>sd (hN 6 (zB (zB (zE 0 [7,8] [5] (zA (zB (zA (zB (zE 0 [7,8,34] [5,33] (zA (zA (zB (zB (zA (zE 1 [58] [5,7,8,9,33,34] (zE 1 [] [] (hr 0 [] 0 5 (.h 2 [5] [] (hr 0 [] 6 3 (hr 0 [] 10 5 (hr 0 [] 17 2 (zE 0 [9] [] (hr 0 [] 15 2 (hr 0 [] 19 3 .e)))))) (hr 0 [] 6 15 (zF 3 [21] [])))))))))))))))))))) func237 h
def L248:Y1:=λ_ a b c=>jC (λd e f=>jC (λg h i=>jC (λj k l=>aH .u8 j λj=>bP (.string  zX) j λj=>aH .i64 j λj=>lA k j λj=>rt c j l) λc=>oG g (wi 256) λj=>Br j (oR g (wi 8) λj=>lA h (iv 8) λk=>JE c [j,k] i) (JE c [g,h] i)) λc=>oG d (wi 65536) λg=>Br g (oR d (wi 16) λg=>lA e (iv 16) λh=>JE c [g,h] f) (JE c [d,e] f)) λc=>oG a (wi 4294967296) λd=>Br d (oR a (wi 32) λd=>JE c [d,(iv 32)] b) (JE c [a,i0] b)
theorem F4:qB L248 248:=λh=>sd (zA (.h 1 [0,2] [] .e (.h 1 [0,2] [] .e (zF 1 [0,2] [])))) func248 h
def L249:Y2:=λa b c d e=>lC 0 b λf=>CR e a 162 #[f,c] d λa c=>lQ 3 c nC 201 a λa c=>lD 0 (pt a) c λd=>oG d i0 λd=>Br d (lM 6 b c λd=>lD 0 (pt a) c λa=>lI 1 d a c λa=>rt e a c) (lM 4 b c λa=>rt e a c)
theorem F3:qC L249 249:=λh=>sd .e func249 h
def L250:Y2:=λa b c d e=>lK d c 201 λc d=>oP b λf=>Br f (rt e (tP (ui 0) (iv 10)) d) (ax 3 d (pt c) λf=>CR e a 228 #[b,f] d λa d=>lN a i0 λf=>Br f (rt e (tP (ui 0) a) d) (lM 2 b d λa=>aE a λa=>lG a i0 λf=>Br f (lM 2 b d λf=>lS a i1 λg=>lI 1 f g d λf=>lM 2 b d λg=>lS a i1 λa=>cP 1 g none (some a) λa=>lC 2 b λg=>St 1 d g a λa=>DR a λg=>lM 1 b g λh=>ax 3 g (pt c) λg=>Build zQ 203 [(0,g),(1,vT)] λg=>ah 5 h f λh=>St 5 a h g λa=>lM 3 b a λg=>lA g i1 λg=>lC 3 b λh=>St 1 a h g λa=>rt e (tP f i0) a) (lM 1 b d λa=>aE a λa=>lM 0 b d λf=>oG a f λa=>Br a (rt e (tP (ui 0) (iv 9)) d) (DR d λa=>lM 1 b a λf=>ax 3 a (pt c) λc=>Build zQ 203 [(0,c),(1,vT)] λc=>aj zQ 197 1 [(0,c)] d λc d=>aF d a/\
App zQ 203 5 24 (.agg #[i0,(ui 0),(ui 0),vF,(bi 0)]) d f c λc d=>aF d a/\
lC 1 b λa=>St 1 d a c λa=>lM 3 b a λc=>lA c i1 λc=>lC 3 b λd=>St 1 a d c λa=>lM 1 b a λb=>aE b λb=>lS b i1 λb=>aH .u32 b λb=>rt e (tP b i0) a))))
theorem F1:qC L250 250:=λh=>sd (hN 3 (.n (zA (zA (zB (zA (zA (zB (zF 0 (yR 9) []))))))) (zA (zB (zF 0 (yR 12) []))))) func250 h
def L251:Y4:=λa b c d e f g=>jB (λh i=>Br h (rt g (tP (ui 0) vF) i) (CR g a 199 #[b,c,d,e] i λh i=>lX h λh j=>rt g (tP h j) i)) λh=>oP b λi=>Split i false (CR g a 198 #[b,c,d,e] f λa b=>lN a i0 λa=>aI vF vT a λa=>JE h [a] b) (aI vT vT undef λa=>JE h [a] f)
theorem F0:qE L251 251:=λh=>sd (zA (zB (zF 1 [19] [0,1,2,3]))) func251 h
def L252:Y2:=λ_ a b c d=>aH .i64 b λe=>lM 1 a c λf=>aE f λf=>lL e f λe=>lU e (λe=>lM 1 a c λa=>ah 5 a b λa=>af 3 a λa=>Ld c a λa=>(lV c a e)) λe=>rt d (Value.bool e) c
theorem FZ:qC L252 252:=λh=>sd (zA (zB (zF 0 [] [1]))) func252 h
def L253:Y1:=λ_ a b c=>oM a (iv 78913) λa=>oR a (wi 18) λa=>rt c a b
theorem FY:qB L253 253:=λh=>sd .e func253 h
def L254:Y1:=λ_ a b c=>Br a (rt c i1 b) (rt c i0 b)
theorem FX:qB L254 254:=λh=>sd .e func254 h
def L257:Y2:=λa b c d e=>oP b λf=>Br f (rt e (tP i0 (iv 10)) d) (jB (λf g=>Br f (rt e (tP i0 i1) g) (yA [i0] g λf g h i=>CR e a 222 #[b] i λj k=>lG j c λj=>Br j (CR e a 285 #[b] k λ_ j=>lA h i1 λl=>az f g [l] j [h] i) (rt e (tP h i0) k))) λf=>lL c i0 λg=>Split g false (CR e a 222 #[b] d λa b=>lG c a λa=>aI vF vT a λa=>JE f [a] b) (aI vT vT undef λa=>JE f [a] d))
theorem FW:qC L257 257:=λh=>sd (zA (zA (.n (zF 1 [16] [0,1]) (zA (zB (zB (zF 0 [6] [0,1]))))))) func257 h
def L258:Y1:=λa b c d=>CR d a 286 #[b] c λb c=>CR d a 287 #[b] c λ_ a=>rt d b a
theorem FV:qB L258 258:=λh=>sd .e func258 h
def L259:Y1:=λ_ a b c=>lK b a 159 λa b=>c (.returned (.func (.func 288) #[] #[(pt a)])) b
theorem FU:qB L259 259:=λh=>sd .e func259 h
def L260:Y0:=λ_ a b=>Build zQ 376 [] λc=>lK a c 376 λa c=>rt b (pt a) c
theorem FR:qA L260 260:=λh=>sd .e func260 h
def L261:Y2:=λa b c d e=>oP b λf=>Br f (rt e (tP i0 (iv 10)) d) (CR e a 167 #[b,c] d λd f=>Un .not d λd=>Br d (rt e (tP i0 (iv 2)) f) (lC 0 b λb=>af 1 b λb=>Ld f b λb=>CR e a 289 #[b,c] f λa b=>lX a λa c=>rt e (tP a c) b))
theorem FQ:qC L261 261:=λh=>sd .e func261 h
def L262:Y3:=λa b c d e f=>oP b λg=>Br g (rt f (iv 10) e) (lM 1 b e λg=>jE (.int .i64) i0 true e g c λg=>lX g λ_ g=>Br g (rt f (iv 11) e) (jA (λg=>lM 0 b g λh=>Build zQ 378 [(0,c),(1,d)] λc=>aj zQ 374 1 [(0,c)] g λc d=>App zQ 378 2 16 (.agg #[i0,i0]) d h c λc d=>lC 0 b λg=>St 1 d g c λc=>lM 0 b c λd=>aE d λd=>lS d i1 λd=>CR f a 290 #[b,d] c λ_ a=>rt f i0 a) λa=>lM 1 b e λc=>ae .map .eql c (.map none) λc=>Br c (kH e λc d=>lC 1 b λb=>St 1 d b c λb=>JE a [] b) (JE a [] e)))
theorem FP:qD L262 262:=λh=>sd (hN 3 (zF 1 [] [0,1,2])) func262 h
def L263:Y1:=λ_ a b c=>oP a λd=>Br d (rt c i0 b) (lM 0 a b λa=>aE a λa=>rt c a b)
theorem FO:qB L263 263:=λh=>sd .e func263 h
def L264:Y1:=λa b c d=>oP b λe=>lO e (λe=>lM 0 b c λf=>aE f λf=>lE f i0 λf=>(lV c f e)) λe=>Br (Value.bool e) (rt d (.tuple #[i0,i0,(iv 10)]) c) (lM 0 b c λe=>ah 2 e i0 λe=>ax 2 c e λe=>lQ 2 c #[i0,i0] 378 e λc e=>lM 0 b e λf=>aE f λf=>lS f i1 λf=>lM 0 b e λg=>ah 2 g f λg=>ax 2 e g λg=>lQ 2 e #[i0,i0] 378 g λe g=>lM 0 b g λh=>cP 2 h none (some f) λh=>lC 0 b λi=>St 1 g i h λg=>DR g λh=>lM 1 b h λi=>lD 0 (pt c) h λh=>vR (.int .i64) g i h λg=>jA (λh=>lD 0 (pt c) h λi=>lD 1 (pt c) h λc=>rt d (.tuple #[i,c,i0]) h) λc=>lG f i0 λf=>Br f (ax 2 g (pt e) λe=>CR d a 291 #[b,i0,e] g λ_ e=>CR d a 292 #[b,i0] e λ_ a=>JE c [] a) (JE c [] g))
theorem vY:qB L264 264:=λh=>sd (zA (zA (.n (zB (zF 0 [] [1])) (hN 4 (.n (zF 0 (yR 7) []) (zF 1 [] [6])))))) func264 h
def L265:Y2:=λa b c d e=>lK d b 347 λb d=>Br c (DR d λc=>Ld c (pt b) λf=>Ld c (pt b) λg=>lM 0 g c λg=>∀h:Hp,
CN (a.add h) 71 #[g] d λa g=>aF g c/\
lS a i1 λa=>lC 6 f λc=>∀_:Hp,
St 1 g c a λa=>Ld a (pt b) λc=>lC 7 c λc=>St 1 a c (.func (.func 293) #[] #[(pt b)]) λa=>rt e (.tuple #[]) a) (Ld d (pt b) λa=>lC 6 a λa=>St 1 d a i0 λa=>Ld a (pt b) λc=>lC 7 c λc=>St 1 a c (.func (.func 295) #[] #[(pt b)]) λa=>rt e (.tuple #[]) a)
theorem FM:qC L265 265:=λh=>sd (zA (zA (zB (zB (zE 1 [] [] (hr 0 [1] 0 10 .e)))))) func265 h
def L266:Y1:=λa b c d=>∃(e:Jt) (f:Mt),JE e [] c/\∀c:Hp,e [] c->∀_:Fr,
jB (λg h=>Br g (lM 0 b h λg=>CR d a 107 #[g] h λg i=>jA (λj=>oM g (iv 100) λk=>lM 2 b j λl=>lM 4 b j λm=>oM l m λl=>lG k l λk=>Br k (rt d (.tuple #[]) j) (az e f [] j [] c)) λe=>lM 2 b i λf=>lL g f λf=>Br f (lM 1 b i λf=>lC 2 b λj=>St 1 i j g λg=>lC 3 b λj=>St 1 g j f λf=>JE e [] f) (JE e [] i)) (rt d (.tuple #[]) h)) λd=>DR c λe=>lM 1 b e λf=>lM 6 b e λg=>lN f g λf=>Br f (lM 7 b e λb=>∀e:Hp,
bK zQ (a.add e) b #[] c (λa b=>lE a i0 λa=>aI vT a vF λa=>JE d [a] b) gu) (JE d [vF] c)
theorem FL:qB L266 266:=λh=>sd (zB (zE 0 [] [0] (.n (zE 1 [19] [0] (zE 1 [] [] (hr 0 [1] 0 9 (.h 2 [9] [] (hr 0 [1] 10 7 .e) (hr 0 [1] 10 6 (zF 3 [16] [1])))))) (zB (zA (zF 1 [] [0,2])))))) func266 h
def L267:Y2:=λa b c d e=>∃(f:Jt) (g:Mt),JE f [] d/\∀d:Hp,f [] d->∀_:Fr,
lM 1 b d λh=>lN h c λc=>Br c (lM 0 b d λc=>CR e a 285 #[c] d λa c=>lX a λa _=>lM 5 b c λh=>lA h i1 λh=>lC 5 b λi=>St 1 c i h λc=>lM 1 b c λh=>lL a h λh=>Br h (lC 1 b λh=>St 1 c h a λh=>az f g [] h [] d) (lA a i1 λa=>lC 1 b λb=>St 1 c b a λa=>az f g [] a [] d)) (rt e (.tuple #[]) d)
theorem FK:qC L267 267:=λh=>sd (zB (zF 0 [] [0,1])) func267 h
def L272:Y5:=λa b c d e f g h=>lK g b 41 λb g=>lK g d 30 λd g=>lK g e 30 λe g=>lK g f 357 λf g=>lW g #[i0,sZ] 30 λg i=>kH i λi j=>ax 2 j (pt d) λd=>dJ (.int .u32) j i (ui 0) d λd=>ax 2 d (pt e) λe=>dJ (.int .u32) d i (ui 1) e λd=>lQ 1 d #[(.map none)] 381 i λd e=>lW e #[.nilFunc] 382 λe i=>St 1 i (pt e) (.func (.func 296) #[] #[(pt d),(pt b),(pt f),(pt e)]) λb=>Ld b (pt e) λd=>bK zQ a d #[c] b (λa b=>St 2 b (pt g) a λa=>ax 2 a (pt g) λb=>rt h b a) (cv h)
theorem FJ:qF L272 272:=λh=>sd .e func272 h
def L273:Y4:=λa b c d e f g=>lK f b 201 λb f=>lK f c 30 λc f=>lK f d 30 λd f=>lW f #[i0,sZ] 30 λf h=>Ld h e λe=>lD 0 (pt b) h λb=>CR g a 37 #[e,b] h λb e=>lX b λb _=>lQ 2 e #[i0,sZ] 30 b λb e=>ax 2 e (pt b) λb=>ax 2 e (pt d) λd=>ax 2 e (pt c) λc=>CR g a 40 #[b,d,c] e λa b=>lX a λa _=>lQ 2 b #[i0,sZ] 30 a λa b=>ax 2 b (pt a) λa=>St 2 b (pt f) a λa=>ax 2 a (pt f) λb=>rt g b a
theorem FI:qE L273 273:=λh=>sd .e func273 h
def L274:Y1:=λa b c d=>kH c λc e=>kH e λe f=>Build zQ 364 [(0,b),(3,c),(4,e)] λc=>lK f c 364 λc e=>aE b λf=>lE f i0 λf=>Br f (rt d (tP (pt c) i0) e) (CR d a 297 #[b] e λe f=>lX e λ_ e=>lN e i0 λg=>Br g (rt d (tP (.pointer none) e) f) (ah 2 b i0 λe=>af 0 e λe=>Ld f e λe=>lC 1 (pt c) λg=>St 1 f g e λe=>aE b λf=>yA [i0] e λe g h i=>lL h f λf=>Br f (ah 2 b h λb=>ax 2 i b λb=>lQ 2 i #[i0,sZ] 30 b λb f=>ax 2 f (pt b) λb=>CR d a 298 #[b] f λa b=>lX a λa _=>lM 2 (pt c) b λf=>aH .i64 a λa=>oO f a λa=>lC 2 (pt c) λf=>St 1 b f a λa=>lA h i1 λb=>az e g [b] a [h] i) (rt d (tP (pt c) i0) i)))
theorem FH:qB L274 274:=λh=>sd (hN 5 (zB (zA (zB (zF 0 [37] [4,35,36]))))) func274 h
def L275:Y3:=λa b c d e f=>lM 2 b e λg=>oR g d λg=>oA g i1 λg=>lE g i0 λg=>Br g (rt f i0 e) (lM 2 b e λg=>oA c g λc=>Build zQ 386 [(0,c),(1,d)] λc=>lQ 2 e #[i0,i0] 386 c λc e=>lM 3 b e λg=>ax 2 e (pt c) λh=>jN zQ 386 i0 true e g h λg=>lX g λg h=>jB (λi j=>rt f i j) λf=>Un .not h λh=>Br h (DR e λh=>lM 0 b h λi=>fo 2 1 (pt c) i0 λj=>Ld h j λj=>aH .u64 j λj=>CN a 299 #[i,j,d] e λa d=>aF d h/\
lX a λa _=>DR d λh=>lM 3 b h λb=>ax 2 h (pt c) λc=>jM zQ 386 d b c a λb=>JE f [a] b) (JE f [g] e))
theorem FG:qD L275 275:=λh=>sd (hN 4 (zE 1 [8] [] (zA (zB (.n (zF 0 (yR 13) []) (zF 0 (yR 7) [])))))) func275 h
def L276:Y2:=λa b c d e=>lM 2 b d λf=>oA c f λc=>lM 2 b d λf=>lE c f λf=>Br f (rt e i0 d) (lM 4 b d λf=>jE (.int .i64) i0 true d f c λf=>lX f λf g=>Br g (rt e f d) (lM 1 b d λf=>yB [(iv (-1)),i0] d λd g h i j=>lL i f λf=>Br f (jB (λf k=>lA i i1 λl=>az d g [f,l] k [h,i] j) λd=>lM 2 b j λf=>Un .xor f λf=>oO c f λf=>oR f i λf=>oA f i1 λf=>lE f i1 λf=>Br f (JE d [h] j) (DR j λ_=>oL i1 i λf=>oO c f λf=>CN a 275 #[b,c,i] j λg i=>CN a 276 #[b,f] i λa f=>lA g a λa=>lL h i0 λg=>lO g (λg=>lL a h λi=>(lV f i g)) λg=>Br (Value.bool g) (JE d [a] f) (JE d [h] f))) (lM 4 b j λa=>dJ (.int .i64) j a c h λa=>rt e h a)))
theorem vX:qC L276 276:=λh=>sd (hN 5 (zB (zA (zB (zE 0 [7,37] [0,1,36] (zA (zA (zE 1 [7] [0,1,36,37] (zB (zA (zA (.n (zF 0 [0,1,2,4,5,6,7,8,3,9,10,11] []) (zB (zF 0 [] [1])))))))))))))) func276 h
def L278:Y1:=λa b c d=>aH .u64 b λb=>CR d a 197 #[b] c λa b=>oL (wi 1) a λa=>rt d a b
theorem FE:qB L278 278:=λh=>sd .e func278 h
def L279:Y1:=λ_ a b c=>DR b λd=>Nil a λe=>Ld d e λe=>Nil a λf=>Ld d f λd=>oL d (wi 13) λd=>ae .num .xor e d λd=>Nil a λe=>St 1 b e d λb=>DR b λd=>Nil a λe=>Ld d e λe=>Nil a λf=>Ld d f λd=>oR d (wi 7) λd=>ae .num .xor e d λd=>Nil a λe=>St 1 b e d λb=>DR b λd=>Nil a λe=>Ld d e λe=>Nil a λf=>Ld d f λd=>oL d (wi 17) λd=>ae .num .xor e d λd=>Nil a λe=>St 1 b e d λb=>Nil a λa=>Ld b a λa=>rt c a b
theorem FD:qB L279 279:=λh=>sd (zA (.n (zF 0 (yR 10) []) (.n (zF 0 (yR 10) []) (zB (zF 0 (yR 10) []))))) func279 h
def L285:Y1:=λa b c d=>oP b λe=>lO e (λe=>lM 7 b c λf=>aE f λf=>lE f i0 λf=>(lV c f e)) λe=>Br (Value.bool e) (rt d (tP i0 (iv 10)) c) (lM 7 b c λe=>aE e λe=>lS e i1 λe=>lM 7 b c λf=>lI 1 f e c λf=>CR d a 146 #[b,f] c λ_ a=>lM 7 b a λc=>cP 1 c none (some e) λc=>lC 7 b λb=>St 1 a b c λa=>rt d (tP f i0) a)
theorem FC:qB L285 285:=λh=>sd (zA (zB (zB (zF 0 [] [1])))) func285 h
def L286:Y1:=λa b c d=>CR d a 301 #[sZ,b] c λa b=>rt d a b
theorem FB:qB L286 286:=λh=>sd .e func286 h
def L287:Y1:=λa b c d=>aE b λe=>aH .u64 e λf=>CR d a 197 #[f] c λc f=>CR d a 302 #[b,i0,e,c] f λ_ a=>rt d (.tuple #[]) a
theorem FA:qB L287 287:=λh=>sd .e func287 h
variable {g:Gh} {a0 a1 a2 a3 a4 a5 a6 a7 a8 a9 sK sJ ZF ZE ZD ZC:zV} {H:Hp} {R:Rt}
def L289:Y2:=λa b c d e=>CR e a 209 #[b,c] d λa d=>lN a i0 λf=>Br f (rt e (tP i0 a) d) (lM 0 b d λa=>lI 1 a c d λa=>Au d a λa=>rt e (tP a i0) d)
theorem Fz:qC L289 289:=λh=>sd .e func289 h
def L290:Y2:=λa b c d e=>lM 0 b d λf=>ah 2 f c λf=>ax 2 d f λf=>lQ 2 d #[i0,i0] 378 f λd f=>yA [c] f λc f g h=>jB (λi j=>Br i (lM 0 b j λi=>lS g i1 λk=>ae .num .quo k (iv 2) λk=>ah 2 i k λi=>ax 2 j i λi=>CR e a 291 #[b,g,i] j λ_ i=>lS g i1 λk=>ae .num .quo k (iv 2) λk=>az c f [k] i [g] h) (ax 2 j (pt d) λc=>CR e a 291 #[b,g,c] j λ_ c=>rt e (.tuple #[]) c)) λc=>DR h λe=>lG g i0 λf=>Br f (ax 2 e (pt d) λd=>lM 0 b e λb=>lS g i1 λf=>ae .num .quo f (iv 2) λf=>ah 2 b f λb=>ax 2 e b λb=>∀f:Hp,
CN (a.add f) 303 #[d,b] h λa b=>aF b e/\
aI vT a vF λa=>JE c [a] b) (JE c [vF] h)
theorem Fy:qC L290 290:=λh=>sd (zA (zB (zB (zE 0 [1] [0,4] (zB (zE 1 [26] [0,1,4] (zE 1 [] [] (hr 0 [] 0 2 (.h 2 [2] [] (hr 0 [] 3 12 .e) (hr 0 [] 3 11 (zF 3 [14] []))))))))))) func290 h
def L291:Y3:=λ_ a b c d e=>lK d c 378 λc d=>DR d λf=>lM 0 a f λg=>ax 2 f (pt c) λf=>ah 2 g b λg=>St 2 d g f λd=>DR d λf=>lM 1 a f λa=>lD 0 (pt c) f λc=>dJ (.int .i64) d a c b λa=>rt e (.tuple #[]) a
theorem Fx:qD L291 291:=λh=>sd (zA (.n (zF 0 (yR 8) []) (zF 0 (yR 8) []))) func291 h
def L292:Y2:=λa b c d e=>lM 0 b d λf=>ah 2 f c λf=>ax 2 d f λf=>lQ 2 d #[i0,i0] 378 f λd f=>yA [c] f λc f g h=>oM (iv 2) g λi=>lA i i1 λi=>jB (λj k=>jB (λl m=>Br l (ax 2 m (pt d) λl=>CR e a 291 #[b,g,l] m λ_ l=>rt e (.tuple #[]) l) (lM 0 b m λl=>ah 2 l j λl=>ax 2 m l λl=>CR e a 291 #[b,g,l] m λ_ e=>az c f [j] e [g] h)) λc=>DR k λe=>lM 0 b e λf=>aE f λf=>oG j f λf=>Br f (JE c [vT] k) (lM 0 b e λf=>ah 2 f j λf=>ax 2 e f λf=>ax 2 e (pt d) λd=>∀g:Hp,
CN (a.add g) 303 #[f,d] k λd f=>aF f e/\
Un .not d λd=>aI vF vT d λd=>JE c [d] f)) λc=>jB (λd e=>Br d (lA i i1 λd=>JE c [d] e) (JE c [i] e)) λc=>DR h λd=>lA i i1 λe=>lM 0 b d λf=>aE f λf=>lL e f λe=>Br e (lM 0 b d λe=>lA i i1 λf=>ah 2 e f λe=>ax 2 d e λe=>lM 0 b d λb=>ah 2 b i λb=>ax 2 d b λb=>∀f:Hp,
CN (a.add f) 303 #[e,b] h λa b=>aF b d/\
aI vT a vF λa=>JE c [a] b) (JE c [vF] h)
theorem Fw:qC L292 292:=λh=>sd (zA (zB (zB (zE 0 [1] [0,4] (zB (zA (.h 1 [5] [0,1,4] (zE 1 [41] [0,1,4,5] (zE 1 [] [] (hr 0 [] 0 8 (.h 2 [8] [] (hr 0 [] 9 17 .e) (hr 0 [] 9 16 (zF 3 [25] [])))))) (zB (zE 1 [62] [0,1,4,5] (zE 1 [] [] (hr 0 [] 0 7 (.h 2 [7] [] (hr 0 [] 8 10 (zF 3 [18] [])) (hr 0 [] 8 11 .e))))))))))))) func292 h
def L293:Y1:=λa b c d=>DR c λe=>Ld e b λf=>Ld e b λb=>lM 1 b e λb=>∀e:Hp,
CN (a.add e) 294 #[f,b,i1] c λa b=>rt d a b
theorem vW:qB L293 293:=λh=>sd (zA (zB (zE 1 [] [] (hr 0 [1] 0 7 .e)))) func293 h
def L294:Y3:=λa b c d e f=>lM 0 b e λg=>CR f a 111 #[g,c] e λa c=>jA (λe=>rt f a e) λe=>lE a i0 λa=>Br a (lM 5 b c λa=>lA a i1 λa=>lC 5 b λf=>St 1 c f a λa=>lM 1 b a λf=>lA f d λd=>lC 1 b λb=>St 1 a b d λa=>JE e [] a) (JE e [] c)
theorem vV:qD L294 294:=λh=>sd (zA (zA (zF 1 [] [7]))) func294 h
def L295:Y1:=λa b c d=>DR c λe=>Ld e b λf=>Ld e b λb=>lM 1 b e λb=>lS b i1 λb=>∀e:Hp,
CN (a.add e) 294 #[f,b,(iv (-1))] c λa b=>rt d a b
theorem vU:qB L295 295:=λh=>sd (zA (zB (zE 1 [] [] (hr 0 [1] 0 8 .e)))) func295 h
def L296:Y5:=λa b c d e f g h=>lW g #[i0,sZ] 30 λg i=>Ld i c λj=>jE (.int .u32) (.agg #[i0,sZ]) true i j b λj=>lX j λj k=>lQ 2 i #[i0,sZ] 30 j λi j=>Br k (ax 2 j (pt i) λi=>St 2 j (pt g) i λi=>ax 2 i (pt g) λk=>rt h k i) (Ld j d λd=>CR h a 134 #[d,b] j λd i=>lQ 3 i nC 201 d λd i=>DR i λj=>Ld j e λe=>ax 3 j (pt d) λk=>Ld j f λl=>lD 1 (pt d) j λm=>Ld j f λf=>lD 2 (pt d) j λd=>∀n:Hp,
bK zQ (a.add n) l #[m] i (λi l=>aF l j/\
∀m:Hp,
bK zQ (a.add m) f #[d] l (λd f=>aF f j/\
∀l:Hp,
bK zQ (a.add l) e #[k,i,d] f (λa d=>aF d j/\
lW d #[i0,sZ] 30 λd e=>∀_:Hp,
St 2 e (pt d) a λa=>Ld a c λc=>ax 2 a (pt d) λe=>dJ (.int .u32) a c b e λa=>ax 2 a (pt d) λb=>St 2 a (pt g) b λa=>ax 2 a (pt g) λb=>rt h b a) gu) gu) gu)
theorem vS:qF L296 296:=λh=>sd (hN 3 (zB (zE 1 [] [] (hr 0 [] 0 5 (hr 0 [] 6 3 (zE 1 [11] [] (zE 0 [5] [] (hr 0 [] 9 4 .e)))))))) func296 h
def L297:Y1:=λa b c d=>CR d a 304 #[b] c λc e=>Un .not c λc=>Br c (rt d (tP sZ (iv 5)) e) (aE b λc=>lE c i0 λc=>Br c (rt d (tP sZ i0) e) (ah 2 b i0 λc=>af 0 c λc=>Ld e c λc=>df 33 1 8 (wi 0) e c c λc e=>aE b λf=>yA [i0] e λe g h i=>lL h f λf=>Br f (ah 2 b h λb=>ax 2 i b λb=>lQ 2 i #[i0,sZ] 30 b λb f=>ax 2 f (pt b) λb=>CR d a 298 #[b] f λa b=>lX a λa _=>aE c λf=>yA [i0] b λb j k l=>lL k f λf=>Br f (jA (λf=>lA k i1 λm=>az b j [m] f [k] l) λb=>oR a k λf=>oA f (wi 1) λf=>lE f (wi 1) λf=>Br f (DR l λf=>lI 1 c k f λf=>oL (wi 1) k λj=>ae .num .andNot a j λa=>oO f a λa=>ah 1 c k λf=>St 1 l f a λa=>JE b [] a) (JE b [] l)) (lA h i1 λa=>az e g [a] l [h] i)) (rt d (tP c i0) i)))
theorem Fv:qB L297 297:=λh=>sd (hN 4 (zB (zA (zB (zE 0 [23] [4,21,22] (zA (zA (zB (zB (hN 3 (zB (zE 0 [34] [4,7,21,22,23,33] (zA (zA (zE 1 [] [4,7,21,22,23,33,34] (zB (zA (zA (zB (zF 0 (yR 11) [])))))))))))))))))))) func297 h
def L298:Y1:=λa b c d=>lK c b 30 λb c=>ax 2 c (pt b) λe=>aj zQ 96 1 [(0,e)] c λc e=>CR d a 21 #[c] e λc e=>Un .not c λc=>Br c (rt d (tP (wi 0) (iv 5)) e) (lD 0 (pt b) e λc=>yB [(wi 0),i0] e λe f g h i=>lL h c λc=>Br c (jB (λc j=>lA h i1 λk=>az e f [c,k] j [g,h] i) λc=>DR i λe=>ax 2 e (pt b) λf=>ax 2 e (pt b) λb=>CN a 306 #[f,h,vF] i λf j=>aF j e/\
wx 1 f λf=>CN a 306 #[b,h,vT] j λb j=>aF j e/\
wx 1 b λb=>CN a 305 #[f,b] j λa b=>aF b e/\
Un .not a λa=>Br a (oL (wi 1) h λa=>oO g a λa=>JE c [a] b) (JE c [g] b)) (rt d (tP g i0) i))
theorem Fu:qB L298 298:=λh=>sd (hN 3 (zB (zA (zB (zE 0 [4,12] [1,11] (zA (zA (zE 1 [4] [1,11,12] (zB (zA (zB (zF 0 [0,1,4,5,2,3,6,7,8,9] [])))))))))))) func298 h
def L299:Y3:=λa b c d e f=>CR f a 304 #[b] e λe g=>Un .not e λe=>Br e (rt f (tP i0 (iv 5)) g) (jB (λe h=>lL d i0 λi=>lO i (λi=>oG d e λj=>(lV h j i)) λi=>lO (Value.bool i) (λi=>oR c e λj=>lN j (wi 0) λj=>(lV h j i)) λi=>Br (Value.bool i) (rt f (tP i0 (iv 2)) h) (oR c d λi=>oA i (wi 1) λi=>lE i (wi 1) λi=>Br i (rt f (tP i0 (iv 4)) h) (CR f a 307 #[b] h λh i=>yB [h,i0] i λh i j k l=>lL k e λe=>Br e (jB (λe m=>lA k i1 λn=>az h i [e,n] m [j,k] l) λe=>oR c k λc=>oA c (wi 1) λc=>lE c (wi 1) λc=>Br c (CR f a 308 #[j,k] l λc h=>lX c λc _=>JE e [c] h) (JE e [j] l)) (CR f a 308 #[j,d] l λa c=>lX a λ_ a=>rt f (tP a i0) c)))) λa=>aE b λc=>lG c i0 λc=>Br c (ah 2 b i0 λb=>af 0 b λb=>Ld g b λb=>JE a [b] g) (JE a [(iv 16)] g))
theorem Ft:qD L299 299:=λh=>sd (hN 3 (.h 1 [8] [0,1,2] .e (.n (zB (zF 0 [] [1])) (zA (zA (zB (zA (zB (zE 0 [9,44] [1,2,43] (zA (zA (zF 1 [9] [1,2,43,44])))))))))))) func299 h
def L303:Y2:=λ_ a b c d=>lK c a 378 λa c=>lK c b 378 λb c=>lD 1 (pt a) c λe=>lD 1 (pt b) c λf=>lL e f λe=>lO e (λe=>lD 1 (pt a) c λf=>lD 1 (pt b) c λg=>lE f g λf=>cz f true (λf=>lD 0 (pt a) c λa=>lD 0 (pt b) c λb=>lL a b λa=>(lV c a f)) (λf=>vF=Value.bool f) λf=>∀_:Fr,
(lV c (Value.bool f) e)) λe=>rt d (Value.bool e) c
theorem Fq:qC L303 303:=λh=>sd (zA (zB (zF 0 [] [1]))) func303 h
def L304:Y1:=λa b c d=>aE b λe=>yA [i0] c λc f g h=>lL g e λe=>Br e (ah 2 b g λe=>ax 2 h e λe=>lQ 2 h #[i0,sZ] 30 e λe i=>jB (λj k=>Br j (rt d vF k) (lA g i1 λj=>az c f [j] k [g] h)) λc=>DR i λf=>ax 2 f (pt e) λg=>∀j:Hp,
CN (a.add j) 41 #[g] i λa g=>aF g f/\
Un .not a λa=>Br a (JE c [vT] g) (lD 0 (pt e) f λa=>ah 2 b i0 λb=>af 0 b λb=>Ld f b λb=>lN a b λa=>aI vF vT a λa=>JE c [a] g)) (rt d vT h)
theorem Fp:qB L304 304:=λh=>sd (zA (zB (zA (zB (zE 0 [7] [0,5,6] (zA (zA (zB (zB (zA (zE 1 [22] [0,5,6,7] (zE 1 [] [] (hr 0 [] 0 3 (.h 2 [3] [] (hr 0 [] 4 7 (zF 3 [11] [])) (hr 0 [] 4 8 .e))))))))))))))) func304 h
def L305:Y2:=λ_ a b c d=>aE a λe=>aE b λf=>lN e f λe=>Br e (rt d vF c) (aE a λe=>yA [i0] c λc f g h=>lL g e λe=>Br e (lI 1 a g h λa=>lI 1 b g h λb=>lN a b λa=>Br a (rt d vF h) (lA g i1 λa=>az c f [a] h [g] h)) (rt d vT h))
theorem Fo:qC L305 305:=λh=>sd (zA (zA (zB (zA (zB (zF 0 [13] [0,1,12])))))) func305 h
def L306:Y3:=λa b c d e f=>lK e b 30 λb e=>lK e c 3 λc e=>lK e d 4 λd e=>lW e #[i0,sZ] 30 λe g=>lD 0 (pt b) g λh=>CR f a 82 #[h,(.func (.func 318) #[] #[(pt c),(pt d),(pt b)])] g λa b=>St 2 b (pt e) a λa=>ax 2 a (pt e) λb=>rt f b a
theorem Fl:qD L306 306:=λh=>sd .e func306 h
def L307:Y1:=λa b c d=>kH c λc e=>aE b λf=>yA [i0] e λe g h i=>lL h f λf=>Br f (ah 2 b h λb=>ax 2 i b λb=>lQ 2 i #[i0,sZ] 30 b λb f=>ax 2 f (pt b) λb=>CR d a 319 #[c,b] f λ_ a=>lA h i1 λb=>az e g [b] a [h] i) (rt d c i)
theorem Fk:qB L307 307:=λh=>sd (zA (zA (zB (zA (zB (zF 0 [9] [3,7,8])))))) func307 h
def L308:Y2:=λa b c d e=>kH d λd f=>Rng f b λb f=>yA [i0] f λf g h i=>ZH i b λj k=>Ext 0 j λj=>Br j (Sk k b λb=>Ext 1 b λb=>lQ 2 k #[i0,sZ] 30 b λb j=>ax 2 j (pt b) λl=>CR e a 320 #[l,c,vF] j λj l=>lX j λj _=>lQ 2 l #[i0,sZ] 30 j λj l=>ax 2 l (pt b) λb=>CR e a 320 #[b,c,vT] l λb c=>lX b λb _=>lQ 2 c #[i0,sZ] 30 b λb c=>DR c λl=>ax 2 l (pt j) λm=>ax 2 l (pt b) λn=>CN a 321 #[m] c λc m=>aF m l/\
CN a 321 #[n] m λa m=>aF m l/\
jB (λl n=>DR n λo=>ax 2 o (pt j) λj=>ax 2 o (pt b) λb=>dJ (.string) n d c j λj=>aF j o/\
dJ (.string) j d a b λb=>az f g [l] b [h] i) λb=>ae .str .neq c a λa=>Br a (lA h i1 λa=>JE b [a] m) (JE b [h] m)) (rt e (tP d h) k)
theorem Fj:qC L308 308:=λh=>sd (zA (zA (zB (zA (zB (zE 0 [7] [1,6,18] (zA (zA (zB (hN 3 (.n (zF 0 [0,2,1,3,4,5] []) (.h 1 [7] [1,6,10,12,14,15,18] .e (zF 0 (yR 8) []))))))))))))) func308 h
def L318:Y4:=λa b c d e f g=>Ld f c λh=>oG h (iv 6) λh=>Br h (Ld f c λh=>lS h (iv 6) λh=>oL i1 h λh=>ae .num .andNot b h λh=>jB (λi j=>af 1 e λk=>Ld j k λk=>lI 1 k i j λi=>rt g i j) λi=>Ld f d λj=>Br j (Ld f c λj=>lS j (iv 6) λj=>oL i1 j λj=>oO h j λj=>JE i [j] f) (JE i [h] f)) (DR f λh=>Ld h c λi=>Ld h c λc=>oL i1 c λc=>CN a 85 #[i,i0] f λa f=>aF f h/\
Ld f d λd=>Br d (af 1 e λd=>Ld f d λd=>lI 1 d b f λd=>oA d a λd=>oR d c λh=>oO d h λd=>rt g d f) (af 1 e λd=>Ld f d λd=>lI 1 d b f λb=>ae .num .andNot b a λa=>oL a c λb=>oO a b λa=>rt g a f))
theorem Fi:qE L318 318:=λh=>sd (zA (.n (zA (zB (zA (zF 1 [6] [3])))) (zB (zF 0 [0,2,3,1,4,5] [])))) func318 h
def L319:Y2:=λa b c d e=>lK d c 30 λc d=>DR d λf=>ax 2 f (pt c) λg=>ax 2 f (pt c) λc=>CN a 321 #[g] d λa d=>aF d f/\
dJ (.string) d b a c λa=>rt e (.tuple #[]) a
theorem Fh:qC L319 319:=λh=>sd (zA (zF 0 [0,1,3,2,4] [])) func319 h
def L320:Y3:=λa b c d e f=>lK e b 30 λb e=>lW e #[i0,sZ] 30 λe g=>ax 2 g (pt b) λh=>CR f a 326 #[h,c] g λg h=>lN g i0 λi=>Br i (Build zQ 30 [] λi=>St 2 h (pt e) i λi=>ax 2 i (pt e) λj=>rt f (tP j g) i) (ax 2 h (pt b) λb=>CR f a 306 #[b,c,d] h λa b=>St 2 b (pt e) a λa=>ax 2 a (pt e) λb=>rt f (tP b i0) a)
theorem Fg:qD L320 320:=λh=>sd .e func320 h
def L321:Y1:=λ_ a b c=>lK b a 30 λa b=>lD 1 (pt a) b λa=>aE a λd=>yB [sZ,i0] b λb e f g h=>lL g d λd=>Br d (lI 1 a g h λa=>yB [f,i0] h λd i j k l=>lL k (iv 8) λm=>Br m (oM (iv 8) k λm=>oR a m λa=>aH .u8 a λa=>aj zQ 67 1 [(0,a)] l λa m=>App zQ 5 1 1 (bi 0) m j a λa m=>lA k i1 λn=>az d i [a,n] m [j,k] l) (lA g i1 λa=>az b e [j,a] l [f,g] h)) (dK h f λa=>rt c a h)
theorem Ff:qB L321 321:=λh=>sd (zA (zA (zB (zA (zB (zE 0 [3,10] [8,9] (zA (zA (zB (zB (zA (zA (zB (zF 0 [3,14] [5,8,9,10])))))))))))))) func321 h
def L326:Y2:=λa b c d e=>lK d b 30 λb d=>ax 2 d (pt b) λf=>aj zQ 96 1 [(0,f)] d λd f=>CR e a 21 #[d] f λa d=>Un .not a λa=>Br a (rt e (iv 5) d) (lL c i0 λa=>lO a (λa=>lD 0 (pt b) d λb=>oG c b λb=>(lV d b a)) λa=>Br (Value.bool a) (rt e (iv 2) d) (rt e i0 d))
theorem Fe:qC L326 326:=λh=>sd (zA (zB (zB (zA (zA (zB (zF 0 [] [1]))))))) func326 h
end Go.Proofs
namespace Go.Sx
open Go
section
variable {P:Program} {g:Gh} {H:Hp}
theorem aK{f:FuncId}{args:Array zV}{C:Hp}{Q:zV->Hp->Prop}(h:∀g,aY P g f args C (aQ Q)):Fc P f args C Q:=h
theorem Ld.q{b off:Nat}{c:Array zV}{T:TypeId}{fz:Nat×Nat}{v:zV}{k:zV->Prop}(h:k v)(hm:(b,Obj.cells c T fz)∈H:=by repeat (first|exact List.Mem.head _|apply List.Mem.tail|apply xaa))(hc:c[off]? =some v:=by rfl):Ld H (.pointer (some ⟨b,off,none⟩)) k:=.mk hm hc h
theorem Ld.f{b o off:Nat}{c:Array zV}{T:TypeId}{fz:Nat×Nat}{v:zV}{k:zV->Prop}(h:k v)(hm:(b,Obj.cells c T fz)∈H:=by repeat (first|exact List.Mem.head _|apply List.Mem.tail|apply xaa))(hc:c[o+off]? =some v:=by rfl):af off (.pointer (some ⟨b,o,none⟩)) λp=>Ld H p k:=.mk (.mk hm hc h)
theorem Ld.n{b o off:Nat}{c:Array zV}{T:TypeId}{fz:Nat×Nat}{v:zV}{k:zV->Prop}(h:k v)(hm:(b,Obj.cells c T fz)∈H:=by repeat (first|exact List.Mem.head _|apply List.Mem.tail|apply xaa))(hc:c[o+off]? =some v:=by rfl):Nil (.pointer (some ⟨b,o,none⟩)) λq=>af off q λp=>Ld H p k:=.ptr (.mk (.mk hm hc h))
theorem Ld.u{b o off:Nat}{c:Array zV}{T:TypeId}{fz:Nat×Nat}{v:zV}{k:zV->Prop}(hm:(b,Obj.cells c T fz)∈H)(h:k v)(hc:c[o+off]? =some v:=by rfl):af off (.pointer (some ⟨b,o,none⟩)) λp=>Ld H p k:=.mk (.mk hm hc h)
theorem Ld.v{b o off:Nat}{c:Array zV}{T:TypeId}{fz:Nat×Nat}{v:zV}{k:zV->Prop}(hm:(b,Obj.cells c T fz)∈H)(h:k v)(hc:c[o+off]? =some v:=by rfl):Nil (.pointer (some ⟨b,o,none⟩)) λq=>af off q λp=>Ld H p k:=.ptr (.mk (.mk hm hc h))
theorem ax.q{b n:Nat}{r:List zV}{T:TypeId}{fz:Nat×Nat}{K:zV->Prop}(h:K (.agg r.toArray))(hm:(b,Obj.cells r.toArray T fz)∈H:=by repeat (first|exact List.Mem.head _|apply List.Mem.tail|apply xaa))(hr:r.length=n:=by rfl):ax n H (.pointer (some ⟨b,0,none⟩)) K:=.whole hm hr h
theorem St.q{b n:Nat}{c:Array zV}{T:TypeId}{r:List zV}{H':Hp}{K:Hp->Prop}(h:K H')(hu:cu b (.cells c T zZ) (.cells r.toArray T zZ) H H':=by repeat (first|exact cu.head _|apply cu.tail|apply cu.aO))(hs:c.size=n:=by rfl)(hr:r.length=n:=by rfl)(h1:∀v∈r,v.oneCell'=true:=by simp[Value.oneCell']):
  St n H (.pointer (some ⟨b,0,none⟩)) (.agg r.toArray) K:=.whole hu hs hr h1 h
theorem St.p{b n:Nat}{c:Array zV}{T:TypeId}{r:List zV}{H':Hp}{K:Hp->Prop}(h1:∀v∈r,v.oneCell'=true)(h:K H')(hu:cu b (.cells c T zZ) (.cells r.toArray T zZ) H H':=by repeat (first|exact cu.head _|apply cu.tail|apply cu.aO))(hs:c.size=n:=by rfl)(hr:r.length=n:=by rfl):
  St n H (.pointer (some ⟨b,0,none⟩)) (.agg r.toArray) K:=.whole hu hs hr h1 h
section
variable {kd wO:IntKind} {a b:Nat} {k:zV->Prop}
theorem ae.gL(h:k (.int kd ((a+b:Nat):Int)))(hr:a+b<aS kd:=by first|(simp[aS];omega)|(simp only[aS];omega)|simp[aS]):ae .num .add (.int kd a) (.int kd b) k:=.dX hr h
theorem ae.inc(h:k (.int kd ((a+1:Nat):Int)))(hr:a+1<aS kd:=by first|(simp[aS];omega)|(simp only[aS];omega)|simp[aS]):ae .num .add (.int kd a) (.int kd 1) k:=.dX hr h
theorem ae.cc(h:k (.int kd ((a-b:Nat):Int)))(ha:a<aS kd:=by first|(simp[aS];omega)|(simp only[aS];omega)|simp[aS])(hb:b<=a:=by omega):ae .num .sub (.int kd a) (.int kd b) k:=.gD ha hb h
theorem ae.wL(h:k (.int kd ((a*b:Nat):Int)))(hr:a*b<aS kd:=by first|(simp[aS];omega)|(simp only[aS];omega)|simp[aS]):ae .num .mul (.int kd a) (.int kd b) k:=.mI hr h
theorem aH.q(h:k (.int kd (a:Int)))(ha:a<aS kd:=by first|(simp[aS];omega)|(simp only[aS];omega)|simp[aS]):aH kd (.int wO a) k:=.nat ha h
end
theorem Br.T{p:Prop}[Decidable p]{t f:Prop}(h:t)(hp:p:=by first|omega|decide|simp):Br (.bool (decide p)) t f:=.U9 hp h
theorem Br.F{p:Prop}[Decidable p]{t f:Prop}(h:f)(hp:¬p:=by first|omega|decide|simp):Br (.bool (decide p)) t f:=.Rk hp h
theorem aa.fq{f:FuncId}{args:Array zV}{C H:Hp}{c:Hp->Hp}{Q:zV->Hp->Prop}{K:zV->Hp->Prop}{KP:List PanicEntry->Hp->Prop}(hc:Fc P f args C Q)
 (hk:∀v C',Q v C'->K v (c C'))(hh:br C H c:=by repeat (first|exact br.here|exact br.left|apply br.cons|apply br.app)):aa P g f args H K KP:=.fn hh hc hk
theorem aa.rq{f:FuncId}{args:Array zV}{B H:Hp}{c:Hp->Hp}{Q:zV->Prop}{K:zV->Hp->Prop}{KP:List PanicEntry->Hp->Prop}(hc:Rd P f args B Q)
 (hk:∀v,Q v->K v H)(hh:br B H c:=by repeat (first|exact br.here|exact br.left|apply br.cons|apply br.app)):aa P g f args H K KP:=.rd hh hc hk
theorem aa.eq{f:FuncId}{args:Array zV}{B H:Hp}{c:Hp->Hp}{v:zV}{K:zV->Hp->Prop}{KP:List PanicEntry->Hp->Prop}(hc:Rd P f args B (· =v))
 (hk:K v H)(hh:br B H c:=by repeat (first|exact br.here|exact br.left|apply br.cons|apply br.app)):aa P g f args H K KP:=.rd hh hc λ_ h=>by subst h;exact hk
theorem aa.eh{f:FuncId}{args:Array zV}{B H:Hp}{c:Hp->Hp}{v:zV}{K:zV->Hp->Prop}{KP:List PanicEntry->Hp->Prop}(hh:br B H c)(hc:Rd P f args B (· =v))
 (hk:K v H):aa P g f args H K KP:=.rd hh hc λ_ h=>by subst h;exact hk
theorem aa.pq{f:FuncId}{args:Array zV}{B H:Hp}{c:Hp->Hp}{Q:zV->Hp->Prop}{K:zV->Hp->Prop}{KP:List PanicEntry->Hp->Prop}(hc:Px P f args B Q)
 (hk:∀v N,Q v (N++B)->K v (c (N++B)))(hh:br B H c:=by repeat (first|exact br.here|exact br.left|apply br.cons|apply br.app)):aa P g f args H K KP:=.px hh hc hk
theorem Ext.two{x y:zV}{k:zV->zV->Prop}(h:k x y):Ext 0 (.tuple #[x,y]) λa=>Ext 1 (.tuple #[x,y]) λb=>k a b:=.mk rfl (.mk rfl h)
end
end Go.Sx
set_option maxRecDepth 100000
namespace Go.Proofs
open Go Go.Sx Tryz
section
theorem kF{B:Hp}{s:zV}{n:Int}{K:zV->Hp->Prop}(h:∀b,K (.slice (some ⟨b,0,none⟩) 1 1) ((b,.cells #[iv n,s] 30 zZ)::B)):
  aj zQ 96 1 [(0,.agg #[iv n,s])] B K:=
 aj.one (r:=[iv n,s]) (e:=30) (k:=2) (z:=.agg #[iv 0,.slice none 0 0]) zK zK zK zD rfl h
theorem DX{G:Nat->Nat}{W:Nat}:((List.range W).map λk=>if k<W then G k else 0)=(List.range W).map G:=by
 apply xbr;intro k hk;rw[xae (xaO.1 hk)]
theorem tB{n:Nat}{ws:zL}(h:ak.dA n ws):ws.length<=4294967296:=by have:=h.len;have:=ak.tI h.si;omega
theorem bu{B:Hp}{s:zV}{ws:zL}(h:Words B s ws):s.oneCell'=true:=by obtain⟨a,c,rfl,_⟩:=h.1.shape;rfl
theorem Kk{G:Nat->Nat}{W i:Nat}(hi:i<W):(iw ((List.range W).map λk=>if k<i then G k else 0)).set i ((G i:Nat):Int)=iw ((List.range W).map λk=>if k<i+1 then G k else 0):=by
 apply xbq;intro j;unfold iw;by_cases e:i=j
 ·subst e;simp[hi]
 rw[xbM e];by_cases hj:j<W
 ·simp only[xar,xdp hj,xbj];by_cases h2:j<i
  ·rw[xae h2,xae zO]
  rw[xac h2,xac zO]
 rw[xaJ zP,xaJ zP]
theorem range_zero{G:Nat->Nat}{W:Nat}:List.replicate W (0:Int)=iw ((List.range W).map λk=>if k<0 then G k else 0):=by
 apply xbq;intro j;unfold iw;by_cases hj:j<W
 ·simp[hj]
 rw[xaJ zP,xaJ zP]
theorem jQ{n:Nat}(hn:n<=16):ak.wN n<=9223372036854775807/\ak.wN n*8<=281474976710656:=by have:=ak.tI hn;omega
end
section
def dc(l:List Bool):Array zV:=(l.map Value.bool).toArray
theorem E0(l:List Bool)(i:Nat)(b:Bool):(dc l).setIfInBounds i (.bool b)=dc (l.set i b):=by simp[dc,xc5]
theorem Ec(n:Nat):madeCells (Value.cells (.bool false)) (n*1)=dc (List.replicate n false):=by
 apply xez
 ·simp[madeCells,dc]
 intro i h1 h2;simp[madeCells,dc,Value.cells,xeG]
def De(B:Hp)(v:zV)(l:List Bool):Prop:=Sl 1 B v (l.map λb=>[Value.bool b])
theorem De.block{B:Hp}{b cap:Nat}{l:List Bool}{T:TypeId}{fz:Nat×Nat}(hm:(b,Obj.cells (dc l) T fz)∈B)(hc:l.length<=cap):De B (.slice (some ⟨b,0,none⟩) l.length cap) l:=by
 refine⟨λr hr=>by obtain⟨b,_,rfl⟩:=xam.1 hr;rfl,.inr ⟨b,0,cap,_,T,fz,by simp,by simpa using hc,hm,by simp[dc],λi r hi j v hj=>?_⟩⟩;rw[xar]at hi;cases hl:l[i]? with
 |none=>rw[hl]at hi;simp at hi
 |some n=>
  rw[hl]at hi;simp only[xbj,xas]at hi;subst hi;cases j with
  |zero=>
   simp only[xch,xas]at hj;subst hj;simp[dc,hl]
  |succ j=>simp at hj
theorem De.ld{kd:IntKind}{B H:Hp}{v:zV}{l:List Bool}(h:De B v l){i:Nat}{b:Bool}(hi:l[i]? =some b)(hs:∀x∈B,x∈H){K:zV->Prop}(hk:K (.bool b)):ah 1 v (.int kd (i:Int)) (λp=>Ld H p K):=
 ah.sl h (by rw[xar,hi];rfl) λp hp=>Ld.at hp hs hk
theorem df.RH{H:Hp}{T:TypeId}{kl:IntKind}{n:Nat}{K:zV->Hp->Prop}(cJ:n<=281474976710656)
 (h:∀b,K (.slice (some ⟨b,0,none⟩) n n) ((b,.cells (dc (List.replicate n false)) T zZ)::H)):df T 1 1 (.bool false) H (.int kl n) (.int kl n) K:=
 ⟨kl,kl,n,n,rfl,rfl,xal _,by omega,by omega,λb _=>by rw[Ec];exact h b⟩
theorem St.RH{H:Hp}{b i:Nat}{l:List Bool}{x:Bool}{T:TypeId}{H':Hp}{K:Hp->Prop}(hu:cu b (.cells (dc l) T zZ) (.cells (dc (l.set i x)) T zZ) H H')(hi:i<l.length)(h:K H'):
  St 1 H (.pointer (some ⟨b,0+i*1,none⟩)) (.bool x) K:=
 St.one (c:=dc l) (c':=dc (l.set i x)) hu rfl (by simpa[dc]using hi) (by rw[xa1,xcc];exact E0 l i x) h
def JS(n:Nat)(L:List (zL)):List Tb:=L.map λws=>⟨n,ws⟩
theorem oD(n:Nat)(L:List (zL)):(JS n L).length=L.length:=by simp[JS]
theorem JN(L:List (zL)):(ak.iS L).length<=L.length:=by
 have:=ak.dH (λa l=>ak.add l a) 1 (λa l=>ak.gK l a) L [];simpa[ak.iS]using this
theorem QG(n u:Nat)(L:List (zL)):(ak.given n L u).length<=2*L.length:=by
 have h:=ak.dH (λt acc=>ak.add (ak.add acc (ak.fU n t u false)) (ak.fU n t u true)) 2 (λa l=>by have h1:=ak.gK (ak.add l (ak.fU n a u false)) (ak.fU n a u true);have h2:=ak.gK l (ak.fU n a u false);omega) L [];simpa[ak.given]using h
end
end Go.Proofs
namespace aC
open ak
theorem dk{x u v:Nat}{b c:Bool}(h:u≠v):aB (aB x u b) v c=aB (aB x v c) u b:=by
 apply xaX;intro k;rw[ai,ai,ai,ai];by_cases e1:k=u<;>by_cases e2:k=v
 ·exact absurd (e1.symm.trans e2) h
 ·simp[e1,h]
 ·simp[e2,xbn h]
 simp[e1,e2]
structure Nd where
 v:Nat
 lo:Nat
 hi:Nat
deriving DecidableEq
abbrev dU:=Nat->Option Nd
abbrev Fn:=Nat->Bool
def live(N:dU)(r:Nat):Prop:=r<2\/∃d,N r=some d
def dep(n:Nat)(ag:Nat->Nat)(N:dU)(r:Nat):Nat:=match N r with|some d=>ag d.v|none=>n
structure WF(n:Nat)(ag:Nat->Nat)(N:dU):Prop where
 two:∀{r d},N r=some d->2<=r
 var:∀{r d},N r=some d->d.v<n
 ne:∀{r d},N r=some d->d.lo≠d.hi
 lo:∀{r d},N r=some d->live N d.lo/\ag d.v<dep n ag N d.lo
 hi:∀{r d},N r=some d->live N d.hi/\ag d.v<dep n ag N d.hi
 uq:∀{r r' d},N r=some d->N r'=some d->r=r'
structure nW(n:Nat)(ag:Nat->Nat):Prop where
 lt:∀v,v<n->ag v<n
 inj:∀u v,u<n->v<n->ag u=ag v->u=v
structure Interp(N:dU)(S:Nat->Fn):Prop where
 zero:∀x,S 0 x=false
 one:∀x,S 1 x=true
 node:∀{r d},N r=some d->∀x,S r x=if x.testBit d.v then S d.hi x else S d.lo x
variable {n:Nat} {ag:Nat->Nat} {N:dU} {S:Nat->Fn}
theorem bj{r:Nat}(h:N r=none):dep n ag N r=n:=by unfold dep;rw[h]
theorem ay{r:Nat}{d:Nd}(h:N r=some d):dep n ag N r=ag d.v:=by unfold dep;rw[h]
theorem WF.gI(h:WF n ag N)(hl:nW n ag)(r:Nat):dep n ag N r<=n:=by
 cases e:N r with
 |none=>rw[bj e];exact xal _
 |some d=>rw[ay e];exact xcq (hl.lt _ (h.var e))
theorem WF.const(h:WF n ag N){r:Nat}(hr:r<2):N r=none:=by
 cases e:N r with
 |none=>rfl
 |some d=>have:=h.two e;omega
theorem WF.indep(h:WF n ag N)(hl:nW n ag)(hi:Interp N S):∀(k r:Nat),n-dep n ag N r<=k->live N r->∀v,v<n->ag v<dep n ag N r->∀x b,S r (aB x v b)=S r x:=by
 intro k;induction k with
 |zero=>
  intro r hk hr v hv hlt x b;rcases hr with hr|⟨d,hd⟩
  ·have:r=0\/r=1:=by omega
   rcases this with rfl|rfl
   ·rw[hi.zero,hi.zero]
   rw[hi.one,hi.one]
  have h1:=hl.lt _ (h.var hd);rw[ay hd]at hk;omega
 |succ k ih=>
  intro r hk hr v hv hlt x b;rcases hr with hr|⟨d,hd⟩
  ·have:r=0\/r=1:=by omega
   rcases this with rfl|rfl
   ·rw[hi.zero,hi.zero]
   rw[hi.one,hi.one]
  rw[ay hd]at hk hlt;have h1:=hl.lt _ (h.var hd);obtain⟨l1,l2⟩:=h.lo hd;obtain⟨m1,m2⟩:=h.hi hd;have hne:d.v≠v:=λe=>by rw[e]at hlt;omega
  rw[hi.node hd,hi.node hd,ai,xac hne,ih d.lo zO l1 v hv zO,ih d.hi zO m1 v hv zO]
theorem WF.bW(h:WF n ag N)(hl:nW n ag)(hi:Interp N S){r:Nat}(hr:live N r){v:Nat}(hv:v<n)(hlt:ag v<dep n ag N r)(x:Nat)(b:Bool):S r (aB x v b)=S r x:=
 h.indep hl hi _ r (xal _) hr v hv hlt x b
theorem WF.child(h:WF n ag N)(hl:nW n ag)(hi:Interp N S){r:Nat}{d:Nd}(hd:N r=some d)(x:Nat)(b:Bool):S r (aB x d.v b)=S (if b then d.hi else d.lo) x:=by
 obtain⟨l1,l2⟩:=h.lo hd;obtain⟨m1,m2⟩:=h.hi hd;rw[hi.node hd,ai,xae rfl];cases b
 ·simp only[xaD,xaT];exact h.bW hl hi l1 (h.var hd) l2 x false
 simp only[xa7];exact h.bW hl hi m1 (h.var hd) m2 x true
theorem WF.canon(h:WF n ag N)(hl:nW n ag)(hi:Interp N S):∀(k r r':Nat),(n-dep n ag N r)+(n-dep n ag N r')<=k->live N r->live N r'->(∀x,S r x=S r' x)->r=r':=by
 intro k;induction k with
 |zero=>
  intro r r' hk hr hr' he;have hc:∀{r},n-dep n ag N r=0->live N r->r<2:=by
   intro r hk hr;rcases hr with hr|⟨d,hd⟩
   ·exact hr
   have h1:=hl.lt _ (h.var hd);rw[ay hd]at hk;omega
  have h1:=hc zO hr;have h2:=hc zO hr';have e0:=he 0;have:r=0\/r=1:=by omega
  have h3:r'=0\/r'=1:=by omega
  rcases this with rfl|rfl<;>rcases h3 with rfl|rfl<;>simp[hi.zero,hi.one]at e0<;>rfl
 |succ k ih=>
  have R6:∀r r',(n-dep n ag N r)+(n-dep n ag N r')<=k+1->live N r'->(∀x,S r x=S r' x)->∀d,N r=some d->ag d.v<dep n ag N r'->False:=by
   intro r r' hk hr' he d hd hlt;obtain⟨l1,l2⟩:=h.lo hd;obtain⟨m1,m2⟩:=h.hi hd;have hv:=h.var hd;have h1:=hl.lt _ hv;have d1:=h.gI hl d.lo;have d2:=h.gI hl d.hi;have d3:=h.gI hl r';rw[ay hd]at hk;have a1:d.lo=r':=ih d.lo r' zO l1 hr' λx=>by
    have:=h.child hl hi hd x false;simp only[xaD,xaT]at this;rw[<-this,he,h.bW hl hi hr' hv hlt]
   have a2:d.hi=r':=ih d.hi r' zO m1 hr' λx=>by
    have:=h.child hl hi hd x true;simp only[xa7]at this;rw[<-this,he,h.bW hl hi hr' hv hlt]
   exact h.ne hd (a1.trans a2.symm)
  intro r r' hk hr hr' he;rcases hr with hr|⟨d,hd⟩
  ·rcases hr' with hr'|⟨d',dG⟩
   ·have e0:=he 0;have:r=0\/r=1:=by omega
    have h3:r'=0\/r'=1:=by omega
    rcases this with rfl|rfl<;>rcases h3 with rfl|rfl<;>simp[hi.zero,hi.one]at e0<;>rfl
   refine(R6 r' r zO (.inl hr) (λx=>(he x).symm) d' dG ?_).elim;rw[bj (h.const hr)];exact hl.lt _ (h.var dG)
  rcases xcW (ag d.v) (dep n ag N r')with hlt|heq|hgt
  ·exact(R6 r r' hk hr' he d hd hlt).elim
  ·rcases hr' with hr'|⟨d',dG⟩
   ·rw[bj (h.const hr')]at heq;have:=hl.lt _ (h.var hd);omega
   rw[ay dG]at heq;have hv:=hl.inj _ _ (h.var hd) (h.var dG) heq;obtain⟨l1,l2⟩:=h.lo hd;obtain⟨m1,m2⟩:=h.hi hd;obtain⟨l1',l2'⟩:=h.lo dG;obtain⟨m1',m2'⟩:=h.hi dG;have h1:=hl.lt _ (h.var hd);have d1:=h.gI hl d.lo;have d2:=h.gI hl d.hi;have d1':=h.gI hl d'.lo;have d2':=h.gI hl d'.hi;rw[ay hd,ay dG]at hk;have c1:=λx=>h.child hl hi hd x false;have c2:=λx=>h.child hl hi hd x true;have c1':=λx=>h.child hl hi dG x false;have c2':=λx=>h.child hl hi dG x true;simp only[xaD,xaT,xa7]at c1 c2 c1' c2';have a1:d.lo=d'.lo:=ih d.lo d'.lo zO l1 l1' λx=>by rw[<-c1,<-c1',he,hv]
   have a2:d.hi=d'.hi:=ih d.hi d'.hi zO m1 m1' λx=>by rw[<-c2,<-c2',he,hv]
   have:d=d':=by cases d;cases d';simp_all
   subst this;exact h.uq hd dG
  rcases hr' with hr'|⟨d',dG⟩
  ·rw[bj (h.const hr')]at hgt;have:=hl.lt _ (h.var hd);omega
  rw[ay dG]at hgt;refine(R6 r' r zO (.inr ⟨d,hd⟩) (λx=>(he x).symm) d' dG ?_).elim;rw[ay hd];exact hgt
theorem WF.same(h:WF n ag N)(hl:nW n ag)(hi:Interp N S){r r':Nat}(hr:live N r)(hr':live N r')(he:∀x,S r x=S r' x):r=r':=h.canon hl hi _ r r' (xal _) hr hr' he
end aC
namespace aC
open ak
variable {n:Nat} {ag:Nat->Nat} {N:dU} {S:Nat->Fn} {ord:zL}
def fg(g:Fn)(v:Nat):Prop:=∃x,g (aB x v false)≠g (aB x v true)
def fs(ord:zL)(F:Fn->Prop):Nat->Fn->Prop
 |0,g=>F g
 |l+1,g=>∃f,fs ord F l f/\∃b,g=λx=>f (aB x (ord.getD l 0) b)
def bc(n:Nat)(ord:zL)(F:Fn->Prop)(g:Fn):Prop:=∃l,l<n/\fs ord F l g/\fg g (ord.getD l 0)
structure Ord(n:Nat)(ag:Nat->Nat)(ord:zL):Prop where
 len:ord.length=n
 at':∀l,l<n->ord.getD l 0<n/\ag (ord.getD l 0)=l
theorem Ord.of(h:Ord n ag ord)(hl:nW n ag){v:Nat}(hv:v<n):ord.getD (ag v) 0=v:=by
 obtain⟨h1,h2⟩:=h.at' _ (hl.lt v hv);exact hl.inj _ _ h1 hv h2
def Fs(S:Nat->Fn)(R:Nat->Prop)(g:Fn):Prop:=∃r,R r/\g=S r
def A(N:dU)(ag:Nat->Nat)(n:Nat)(R:Nat->Prop):Nat->Nat->Prop
 |0,r=>R r
 |l+1,r=>(A N ag n R l r/\dep n ag N r≠l)\/∃p d,A N ag n R l p/\N p=some d/\ag d.v=l/\(r=d.lo\/r=d.hi)
variable {R:Nat->Prop}
theorem rV(h:WF n ag N)(hR:∀r,R r->live N r):∀l r,A N ag n R l r->live N r/\l<=dep n ag N r
 |0,r,ha=>⟨hR r ha,xaA _⟩
 |l+1,r,ha=>by
  rcases ha with⟨h1,h2⟩|⟨p,d,h1,h2,h3,h4⟩
  ·have:=rV h hR l r h1;exact⟨this.1,by omega⟩
  rcases h4 with rfl|rfl
  ·have:=h.lo h2;exact⟨this.1,by omega⟩
  have:=h.hi h2;exact⟨this.1,by omega⟩
theorem rU{r:Nat}:∀k l,A N ag n R l r->l+k<=dep n ag N r->A N ag n R (l+k) r
 |0,l,ha,_=>ha
 |k+1,l,ha,hk=>by
  have h1:=rU k l ha zO;have h2:dep n ag N r≠l+k:=by omega
  exact .inl ⟨h1,h2⟩
def Reach(N:dU)(R:Nat->Prop):Prop:=∀r d,N r=some d->R r\/∃p e,N p=some e/\(e.lo=r\/e.hi=r)
theorem WU(h:WF n ag N)(hr:Reach N R):∀k r d,N r=some d->ag d.v<=k->A N ag n R (ag d.v) r:=by
 intro k;induction k with
 |zero=>
  intro r d hd hk;rcases hr r d hd with h1|⟨p,e,h1,h2⟩
  ·rw[show ag d.v=0 by omega];exact h1
  have:=h.lo h1;have h3:=h.hi h1;rcases h2 with rfl|rfl
  ·rw[ay hd]at this;omega
  rw[ay hd]at h3;omega
 |succ k ih=>
  intro r d hd hk;rcases hr r d hd with h1|⟨p,e,h1,h2⟩
  ·have:=rU (N:=N) (ag:=ag) (n:=n) (R:=R) (r:=r) (ag d.v) 0 h1 (by rw[ay hd];omega);rwa [xa1]at this
  have hlt:ag e.v<ag d.v:=by
   have:=h.lo h1;have h3:=h.hi h1;rcases h2 with rfl|rfl
   ·rw[ay hd]at this;omega
   rw[ay hd]at h3;omega
  have ha:=ih p e h1 zO;have hb:A N ag n R (ag e.v+1) r:=.inr ⟨p,e,ha,h1,rfl,by rcases h2 with rfl|rfl;exact .inl rfl;exact .inr rfl⟩;have:=rU (ag d.v-(ag e.v+1)) _ hb (by rw[ay hd];omega);rwa [show ag e.v+1+(ag d.v-(ag e.v+1))=ag d.v by omega]at this
theorem Ln(h:WF n ag N)(hl:nW n ag)(ho:Ord n ag ord)(hi:Interp N S)(hR:∀r,R r->live N r):∀l,l<=n->∀g,fs ord (Fs S R) l g↔∃r,A N ag n R l r/\g=S r
 |0,_,g=>xdg
 |l+1,KW,g=>by
  obtain⟨v1,v2⟩:=ho.at' l KW;have ih:=Ln h hl ho hi hR l zO;constructor
  ·rintro⟨f,hf,b,rfl⟩;obtain⟨r,ha,rfl⟩:=(ih f).1 hf;obtain⟨hlv,hle⟩:=rV h hR l r ha;by_cases e:dep n ag N r=l
   ·rcases hlv with hc|⟨d,hd⟩
    ·rw[bj (h.const hc)]at e;omega
    rw[ay hd]at e;have hv:d.v=ord.getD l 0:=hl.inj _ _ (h.var hd) v1 zO;refine⟨if b then d.hi else d.lo,.inr ⟨r,d,ha,hd,e,by cases b<;>simp⟩,?_⟩
    funext x
    rw[<-hv];exact h.child hl hi hd x b
   refine⟨r,.inl ⟨ha,e⟩,?_⟩
   funext x
   exact h.bW hl hi hlv v1 zO x b
  rintro⟨r,ha,rfl⟩;rcases ha with⟨h1,h2⟩|⟨p,d,h1,h2,h3,h4⟩
  ·obtain⟨hlv,hle⟩:=rV h hR l r h1;refine⟨S r,(ih _).2 ⟨r,h1,rfl⟩,false,?_⟩
   funext x
   exact(h.bW hl hi hlv v1 zO x false).symm
  have hv:d.v=ord.getD l 0:=hl.inj _ _ (h.var h2) v1 zO;rcases h4 with rfl|rfl
  ·refine⟨S p,(ih _).2 ⟨p,h1,rfl⟩,false,?_⟩
   funext x
   rw[<-hv];exact(h.child hl hi h2 x false).symm
  refine⟨S p,(ih _).2 ⟨p,h1,rfl⟩,true,?_⟩
  funext x
  rw[<-hv];exact(h.child hl hi h2 x true).symm
theorem mH(h:WF n ag N)(hl:nW n ag)(ho:Ord n ag ord)(hi:Interp N S)(hR:∀r,R r->live N r)(hr:Reach N R)(g:Fn):bc n ord (Fs S R) g↔∃r d,N r=some d/\g=S r:=by
 constructor
 ·rintro⟨l,KW,hf,x,hx⟩;obtain⟨v1,v2⟩:=ho.at' l KW;obtain⟨r,ha,rfl⟩:=(Ln h hl ho hi hR l zO g).1 hf;obtain⟨hlv,hle⟩:=rV h hR l r ha;by_cases e:dep n ag N r=l
  ·rcases hlv with hc|⟨d,hd⟩
   ·rw[bj (h.const hc)]at e;omega
   exact⟨r,d,hd,rfl⟩
  exact absurd (by rw[h.bW hl hi hlv v1 zO,h.bW hl hi hlv v1 zO]) hx
 rintro⟨r,d,hd,rfl⟩;have hv:=h.var hd;have hlt:=hl.lt _ hv;refine⟨ag d.v,hlt,(Ln h hl ho hi hR _ zO _).2 ⟨r,WU h hr _ r d hd (xal _),rfl⟩,?_⟩;rw[ho.of hl hv];refine xaY λhno=>h.ne hd (h.same hl hi (h.lo hd).1 (h.hi hd).1 λx=>?_);have c1:=h.child hl hi hd x false;have c2:=h.child hl hi hd x true;simp only[xaD,xaT,xa7]at c1 c2;rw[<-c1,<-c2];exact xaY λhne=>hno ⟨x,hne⟩
def pA(P:Fn->Prop)(k:Nat):Prop:=∃l:List Fn,l.Nodup/\l.length=k/\∀g,P g↔g∈l
theorem pA.congr{P Q:Fn->Prop}{k:Nat}(h:pA P k)(e:∀g,P g↔Q g):pA Q k:=let ⟨l,h1,h2,h3⟩:=h;⟨l,h1,h2,λg=>(e g).symm.trans (h3 g)⟩
theorem bV{α:Type}:∀{l l':List α},l.Nodup->(∀x∈l,x∈l')->l.length<=l'.length
 | [],l',_,_=>xaA _
 |x::l,l',hn,hs=>by
  obtain⟨h1,h2⟩:=xaW.1 hn;obtain⟨a,b,rfl⟩:=xc3 (hs x zI);have:=bV (l':=a++b) h2 λy hy=>by
   have:=hs y (by simp[hy]);rcases xaq.1 this with h|h
   ·exact xad _ h
   rcases xag.1 h with rfl|h
   ·exact absurd hy h1
   exact xaa _ h
  simp at this⊢;omega
theorem pA.le{P Q:Fn->Prop}{k k':Nat}(h:pA P k)(h':pA Q k')(e:∀g,P g->Q g):k<=k':=by
 obtain⟨l,h1,h2,h3⟩:=h;obtain⟨l',uV,o9,wC⟩:=h';rw[<-h2,<-o9];exact bV h1 λx hx=>(wC x).1 (e x ((h3 x).2 hx))
theorem pA.uniq{P:Fn->Prop}{k k':Nat}(h:pA P k)(h':pA P k'):k=k':=xeB (h.le h' λ_=>id) (h'.le h λ_=>id)
theorem pA.or{P Q:Fn->Prop}{k k':Nat}(h:pA P k)(h':pA Q k')(e:∀g,P g->¬Q g):pA (λg=>P g\/Q g) (k+k'):=by
 obtain⟨l,h1,h2,h3⟩:=h;obtain⟨l',uV,o9,wC⟩:=h';refine⟨l++l',xa9.2 ⟨h1,uV,λa ha b hb e'=>?_⟩,by rw[xaf,h2,o9],λg=>by rw[xaq,<-h3,<-wC]⟩;subst e';exact e a ((h3 a).2 ha) ((wC a).2 hb)
theorem yx(h:WF n ag N)(hl:nW n ag)(hi:Interp N S){dom:zL}(hd:dom.Nodup)(hm:∀r,r∈dom↔∃d,N r=some d):pA (λg=>∃r d,N r=some d/\g=S r) dom.length:=by
 refine⟨dom.map S,?_,by simp,λg=>?_⟩
 ·refine xb9.2 (hd.imp_of_mem λ{a b} ha hb hne heq=>hne ?_);exact h.same hl hi (.inr ((hm a).1 ha)) (.inr ((hm b).1 hb)) λx=>by rw[heq]
 rw[xam];constructor
 ·rintro⟨r,d,h1,rfl⟩;exact⟨r,(hm r).2 ⟨d,h1⟩,rfl⟩
 rintro⟨r,h1,rfl⟩;obtain⟨d,h2⟩:=(hm r).1 h1;exact⟨r,d,h2,rfl⟩
end aC
namespace aC
open ak
def up{α:Type}(N:Nat->α)(r:Nat)(o:α):Nat->α:=λs=>if s=r then o else N s
@[simp] theorem aL{α:Type}{N:Nat->α}{r:Nat}{o:α}:up N r o r=o:=xae rfl
theorem aP{α:Type}{N:Nat->α}{r s:Nat}{o:α}(h:s≠r):up N r o s=N s:=xac h
def pB(T:Nd->Option Nat)(d:Nd)(o:Option Nat):Nd->Option Nat:=λe=>if e=d then o else T e
@[simp] theorem iR{T:Nd->Option Nat}{d:Nd}{o:Option Nat}:pB T d o d=o:=xae rfl
theorem oC{T:Nd->Option Nat}{d e:Nd}{o:Option Nat}(h:e≠d):pB T d o e=T e:=xac h
def e1:Option Nd->Nat->Nat
 |none,_=>0
 |some d,r=>(if d.lo=r then 1 else 0)+(if d.hi=r then 1 else 0)
theorem dR(d:Nd)(r:Nat):e1 (some d) r=(if d.lo=r then 1 else 0)+(if d.hi=r then 1 else 0):=rfl
def c8(N:dU)(r:Nat):Nat->Nat
 |0=>0
 |k+1=>c8 N r k+e1 (N k) r
def me(N:dU):Nat->Nat
 |0=>0
 |k+1=>me N k+(if(N k).isSome then 1 else 0)
theorem yl{N:dU}{s r:Nat}{o:Option Nd}:∀{k},(s<k->c8 (up N s o) r k+e1 (N s) r=c8 N r k+e1 o r)/\(k<=s->c8 (up N s o) r k=c8 N r k)
 |0=>⟨λh=>by omega,λ_=>rfl⟩
 |k+1=>by
  obtain⟨i1,i2⟩:=yl (N:=N) (s:=s) (r:=r) (o:=o) (k:=k);refine⟨λh=>?_,λh=>?_⟩
  ·rw[c8,c8];by_cases e:s=k
   ·subst e;rw[aL,i2 (xal _)];omega
   have:=i1 zO;rw[aP (λh=>e h.symm)];omega
  rw[c8,c8,i2 zO,aP zO]
theorem u7{N:dU}{s r k:Nat}{o:Option Nd}(h:s<k):c8 (up N s o) r k+e1 (N s) r=c8 N r k+e1 o r:=yl.1 h
theorem qt{N:dU}{s:Nat}{o:Option Nd}:∀{k},(s<k->me (up N s o) k+(if(N s).isSome then 1 else 0)=me N k+(if o.isSome then 1 else 0))/\(k<=s->me (up N s o) k=me N k)
 |0=>⟨λh=>by omega,λ_=>rfl⟩
 |k+1=>by
  obtain⟨i1,i2⟩:=qt (N:=N) (s:=s) (o:=o) (k:=k);refine⟨λh=>?_,λh=>?_⟩
  ·rw[me,me];by_cases e:s=k
   ·subst e;rw[aL,i2 (xal _)];omega
   have:=i1 zO;rw[aP (λh=>e h.symm)];omega
  rw[me,me,i2 zO,aP zO]
theorem jl{N:dU}{r:Nat}:∀{k},c8 N r k=0->∀s,s<k->∀d,N s=some d->d.lo≠r/\d.hi≠r
 |0,_,s,hs,_,_=>by omega
 |k+1,h,s,hs,d,hd=>by
  rw[c8]at h;by_cases e:s=k
  ·subst e;rw[hd,dR]at h;constructor
   ·intro h1;rw[xae h1]at h;omega
   intro h1;rw[xae h1]at h;omega
  exact jl (k:=k) zO s zO d hd
theorem rG{N:dU}{r:Nat}:∀{k},0<c8 N r k->∃s d,s<k/\N s=some d/\(d.lo=r\/d.hi=r)
 |0,h=>by simp[c8]at h
 |k+1,h=>by
  rw[c8]at h;by_cases hk:0<c8 N r k
  ·obtain⟨s,d,h1,h2,h3⟩:=rG hk;exact⟨s,d,by omega,h2,h3⟩
  cases hd:N k with
  |none=>rw[hd]at h;simp[e1]at h;omega
  |some d=>
   refine⟨k,d,by omega,hd,?_⟩;rw[hd,dR]at h;by_cases h1:d.lo=r
   ·exact .inl h1
   by_cases h2:d.hi=r
   ·exact .inr h2
   rw[xac h1,xac h2]at h;omega
theorem Ce{N:dU}{r:Nat}:∀k,c8 N r k<=2*k
 |0=>xal _
 |k+1=>by
  have:=Ce (N:=N) (r:=r) k;rw[c8];have:e1 (N k) r<=2:=by
   cases N k with
   |none=>simp[e1]
   |some d=>rw[dR];split<;>split<;>omega
  omega
theorem Cu(N:dU):∀k,((List.range k).filter λr=>(N r).isSome).length=me N k
 |0=>rfl
 |k+1=>by
  rw[xcR,xcs,xaf,Cu N k,me];congr 1;cases h:N k<;>simp[h]
structure Kd where
 n:Nat
 cap:Nat
 used:Nat
 N:dU
 T:Nd->Option Nat
 us:zL
 ho:zL
def Kd.hold(K:Kd)(r:Nat):Nat:=K.ho.getD r 0
def Kd.use(K:Kd)(r:Nat):Nat:=K.us.getD r 0
structure jw(K:Kd)(S:Nat->Fn)(E:Nat->Prop)(P:Nat->Nat):Prop where
 two:∀{r d},K.N r=some d->2<=r/\r<K.cap
 var:∀{r d},K.N r=some d->d.v<K.n
 ne:∀{r d},K.N r=some d->d.lo≠d.hi
 lo:∀{r d},K.N r=some d->live K.N d.lo
 hi:∀{r d},K.N r=some d->live K.N d.hi
 int:Interp K.N S
 jy:∀d r,K.T d=some r↔K.N r=some d/\¬E r
 use:∀{r d},K.N r=some d->K.use r=c8 K.N r K.cap+(if K.hold r=0 then 0 else 1)+P r
 len:K.us.length=K.ho.length
 fit:∀{r d},K.N r=some d->r<K.us.length
 held:∀r,K.hold r≠0->∃d,K.N r=some d
 mx:∀r,K.hold r<=65535
 room:K.used=2+me K.N K.cap
 cap:K.used<=K.cap/\K.cap<=1048576
variable {K:Kd} {S:Nat->Fn} {E:Nat->Prop} {P:Nat->Nat}
theorem jJ{N:dU}{r s:Nat}{d:Nd}(h:live N s):live (up N r (some d)) s:=by
 rcases h with h|⟨e,h⟩
 ·exact .inl h
 by_cases e2:s=r
 ·subst e2;exact .inr ⟨d,aL⟩
 exact .inr ⟨e,by rw[aP e2];exact h⟩
theorem xL{N:dU}{r s:Nat}(h:live N s)(hne:s≠r):live (up N r none) s:=by
 rcases h with h|⟨e,h⟩
 ·exact .inl h
 exact .inr ⟨e,by rw[aP hne];exact h⟩
def Pos(K:Kd):Prop:=∀r d,K.N r=some d->0<K.use r
theorem jw.less(h:jw K S E P){r:Nat}{di:zL}(hP:0<P r)(hl:di.length=K.us.length)(h1:di.getD r 0+1=K.use r)(h2:∀s,s≠r->di.getD s 0=K.use s):
  jw {K with us:=di} S E (up P r (P r-1)) where
 two:=h.two
 var:=h.var
 ne:=h.ne
 lo:=h.lo
 hi:=h.hi
 int:=h.int
 jy:=h.jy
 use:=λ{s d} hd=>by
  have:=h.use hd;show di.getD s 0=c8 K.N s K.cap+(if K.hold s=0 then 0 else 1)+up P r (P r-1) s;by_cases e:s=r
  ·subst e;rw[aL];omega
  rw[h2 s e,aP e];exact this
 len:=by show di.length=_;rw[hl];exact h.len
 fit:=λ{s d} hd=>by show s<di.length;rw[hl];exact h.fit hd
 held:=h.held
 mx:=h.mx
 room:=h.room
 cap:=h.cap
theorem jw.free(h:jw K S E P){r:Nat}{d:Nd}(hd:K.N r=some d)(hE:¬E r)(h0:K.use r=0):
  jw {K with N:=up K.N r none,T:=pB K.T d none,used:=K.used-1} S E (λs=>P s+e1 (some d) s) where
 two:=λ{s e} hs=>by
  have hs':up K.N r none s=some e:=hs;by_cases e2:s=r
  ·subst e2;rw[aL]at hs';cases hs'
  rw[aP e2]at hs';exact h.two hs'
 var:=λ{s e} hs=>by
  have hs':up K.N r none s=some e:=hs;by_cases e2:s=r
  ·subst e2;rw[aL]at hs';cases hs'
  rw[aP e2]at hs';exact h.var hs'
 ne:=λ{s e} hs=>by
  have hs':up K.N r none s=some e:=hs;by_cases e2:s=r
  ·subst e2;rw[aL]at hs';cases hs'
  rw[aP e2]at hs';exact h.ne hs'
 lo:=λ{s e} hs=>by
  have hs':up K.N r none s=some e:=hs;by_cases e2:s=r
  ·subst e2;rw[aL]at hs';cases hs'
  rw[aP e2]at hs';have hu:=h.use hd;exact xL (h.lo hs') (jl zO s (h.two hs').2 e hs').1
 hi:=λ{s e} hs=>by
  have hs':up K.N r none s=some e:=hs;by_cases e2:s=r
  ·subst e2;rw[aL]at hs';cases hs'
  rw[aP e2]at hs';have hu:=h.use hd;exact xL (h.hi hs') (jl zO s (h.two hs').2 e hs').2
 int:=⟨h.int.zero,h.int.one,λ{s e} hs x=>by
  have hs':up K.N r none s=some e:=hs;by_cases e2:s=r
  ·subst e2;rw[aL]at hs';cases hs'
  rw[aP e2]at hs';exact h.int.node hs' x⟩
 jy:=λe s=>by
  show pB K.T d none e=some s↔up K.N r none s=some e/\_;by_cases e2:e=d
  ·subst e2;rw[iR];constructor
   ·intro h;cases h
   rintro⟨h1,h2⟩;by_cases e3:s=r
   ·subst e3;rw[aL]at h1;cases h1
   rw[aP e3]at h1;have a:=(h.jy e s).2 ⟨h1,h2⟩;have b:=(h.jy e r).2 ⟨hd,hE⟩;rw[a]at b;cases b;exact absurd rfl e3
  rw[oC e2,h.jy];by_cases e3:s=r
  ·subst e3;rw[aL];constructor
   ·rintro⟨h1,_⟩;rw[hd]at h1;cases h1;exact absurd rfl e2
   rintro⟨h1,_⟩;cases h1
  rw[aP e3]
 use:=λ{s e} hs=>by
  have hs':up K.N r none s=some e:=hs;by_cases e2:s=r
  ·subst e2;rw[aL]at hs';cases hs'
  rw[aP e2]at hs';have hu:=h.use hs';have he:=u7 (N:=K.N) (s:=r) (r:=s) (k:=K.cap) (o:=none) (h.two hd).2;show K.use s=c8 (up K.N r none) s K.cap+(if K.hold s=0 then 0 else 1)+(P s+e1 (some d) s);rw[hd]at he;have:e1 none s=0:=rfl;omega
 len:=h.len
 fit:=λ{s e} hs=>by
  have hs':up K.N r none s=some e:=hs;by_cases e2:s=r
  ·subst e2;rw[aL]at hs';cases hs'
  rw[aP e2]at hs';exact h.fit hs'
 held:=λs hs=>by
  obtain⟨e,he⟩:=h.held s hs;have hne:s≠r:=λe2=>by
   subst e2;have hu:=h.use hd;have hs':K.hold s≠0:=hs;rw[xac hs']at hu;omega
  exact⟨e,by show up K.N r none s=_;rw[aP hne];exact he⟩
 mx:=h.mx
 room:=by
  have:=(qt (N:=K.N) (s:=r) (o:=none) (k:=K.cap)).1 (h.two hd).2;have hr:=h.room;rw[hd]at this;show K.used-1=2+me (up K.N r none) K.cap;simp at this;omega
 cap:=⟨by have:=h.cap.1;show K.used-1<=K.cap;omega,h.cap.2⟩
theorem jw.more(h:jw K S E P){r:Nat}{di:zL}(hl:di.length=K.us.length)(h1:di.getD r 0=K.use r+1)(h2:∀s,s≠r->di.getD s 0=K.use s):
  jw {K with us:=di} S E (up P r (P r+1)) where
 two:=h.two
 var:=h.var
 ne:=h.ne
 lo:=h.lo
 hi:=h.hi
 int:=h.int
 jy:=h.jy
 use:=λ{s d} hd=>by
  have:=h.use hd;show di.getD s 0=c8 K.N s K.cap+(if K.hold s=0 then 0 else 1)+up P r (P r+1) s;by_cases e:s=r
  ·subst e;rw[aL];omega
  rw[h2 s e,aP e];exact this
 len:=by show di.length=_;rw[hl];exact h.len
 fit:=λ{s d} hd=>by show s<di.length;rw[hl];exact h.fit hd
 held:=h.held
 mx:=h.mx
 room:=h.room
 cap:=h.cap
end aC
namespace aC
open ak
variable {K:Kd} {S:Nat->Fn} {E:Nat->Prop} {P:Nat->Nat}
def ite(S:Nat->Fn)(d:Nd):Fn:=λx=>if x.testBit d.v then S d.hi x else S d.lo x
theorem fy{N:dU}{r s:Nat}(h:live N s)(h2:2<=r)(hr:N r=none):s≠r:=λe=>by
 subst e;rcases h with h|⟨d,h⟩
 ·omega
 rw[hr]at h;cases h
theorem jw.lay(h:jw K S E P){r:Nat}{d:Nd}{di cq:zL}(hr:K.N r=none)(h2:2<=r/\r<K.cap)(hv:d.v<K.n)(hne:d.lo≠d.hi)(hlo:live K.N d.lo)(hhi:live K.N d.hi)(hT:K.T d=none)(hE:¬E r)
 (hP:P r=0)(hro:K.used<K.cap)(hl:di.length=cq.length)(hf:r<di.length/\K.us.length<=di.length)(u0:di.getD r 0=0)(u1:∀s,2<=s->s≠r->di.getD s 0=K.use s+e1 (some d) s)(o0:cq.getD r 0=0)(o1:∀s,s≠r->cq.getD s 0=K.hold s):
  jw {K with N:=up K.N r (some d),T:=pB K.T d (some r),used:=K.used+1,us:=di,ho:=cq} (up S r (ite S d)) E P where
 two:=λ{s e} hs=>by
  have hs':up K.N r (some d) s=some e:=hs;by_cases e2:s=r
  ·subst e2;exact h2
  rw[aP e2]at hs';exact h.two hs'
 var:=λ{s e} hs=>by
  have hs':up K.N r (some d) s=some e:=hs;by_cases e2:s=r
  ·subst e2;rw[aL]at hs';cases hs';exact hv
  rw[aP e2]at hs';exact h.var hs'
 ne:=λ{s e} hs=>by
  have hs':up K.N r (some d) s=some e:=hs;by_cases e2:s=r
  ·subst e2;rw[aL]at hs';cases hs';exact hne
  rw[aP e2]at hs';exact h.ne hs'
 lo:=λ{s e} hs=>by
  have hs':up K.N r (some d) s=some e:=hs;by_cases e2:s=r
  ·subst e2;rw[aL]at hs';cases hs';exact jJ hlo
  rw[aP e2]at hs';exact jJ (h.lo hs')
 hi:=λ{s e} hs=>by
  have hs':up K.N r (some d) s=some e:=hs;by_cases e2:s=r
  ·subst e2;rw[aL]at hs';cases hs';exact jJ hhi
  rw[aP e2]at hs';exact jJ (h.hi hs')
 int:=⟨λx=>by rw[aP zO];exact h.int.zero x,λx=>by rw[aP zO];exact h.int.one x,λ{s e} hs x=>by
  have hs':up K.N r (some d) s=some e:=hs;by_cases e2:s=r
  ·subst e2;rw[aL]at hs';cases hs';rw[aL,aP (fy hlo h2.1 hr),aP (fy hhi h2.1 hr)];rfl
  rw[aP e2]at hs';rw[aP e2,aP (fy (h.lo hs') h2.1 hr),aP (fy (h.hi hs') h2.1 hr)];exact h.int.node hs' x⟩
 jy:=λe s=>by
  show pB K.T d (some r) e=some s↔up K.N r (some d) s=some e/\_;by_cases e2:e=d
  ·subst e2;rw[iR];constructor
   ·intro h;cases h;exact⟨aL,hE⟩
   rintro⟨h1,o9⟩;by_cases e3:s=r
   ·rw[e3]
   rw[aP e3]at h1;have a:=(h.jy e s).2 ⟨h1,o9⟩;rw[hT]at a;cases a
  rw[oC e2,h.jy];by_cases e3:s=r
  ·subst e3;rw[aL,hr];constructor
   ·rintro⟨h1,_⟩;cases h1
   rintro⟨h1,_⟩;cases h1;exact absurd rfl e2
  rw[aP e3]
 use:=λ{s e} hs=>by
  have hs':up K.N r (some d) s=some e:=hs;have he:=u7 (N:=K.N) (s:=r) (r:=s) (k:=K.cap) (o:=some d) h2.2;rw[hr]at he;have h0:e1 none s=0:=rfl;show di.getD s 0=c8 (up K.N r (some d)) s K.cap+(if cq.getD s 0=0 then 0 else 1)+P s;by_cases e2:s=r
  ·subst e2;have hz:c8 K.N s K.cap=0:=by
    refine Nat.eq_zero_of_not_pos λhp=>?_;obtain⟨t,e',_,ht,hc⟩:=rG hp;have x7:=fy (h.lo ht) h2.1 hr;have mT:=fy (h.hi ht) h2.1 hr;rcases hc with hc|hc
    ·exact x7 hc
    exact mT hc
   have hd0:e1 (some d) s=0:=by
    rw[dR,xac (fy hlo h2.1 hr),xac (fy hhi h2.1 hr)]
   rw[u0,o0,xae rfl];omega
  rw[aP e2]at hs';have hu:=h.use hs';have h3:cq.getD s 0=K.hold s:=o1 s e2;rw[u1 s (h.two hs').1 e2,h3];omega
 len:=hl
 fit:=λ{s e} hs=>by
  have hs':up K.N r (some d) s=some e:=hs;show s<di.length;by_cases e2:s=r
  ·subst e2;exact hf.1
  rw[aP e2]at hs';exact xa2 (h.fit hs') hf.2
 held:=λs hs=>by
  have hs':cq.getD s 0≠0:=hs;by_cases e2:s=r
  ·subst e2;exact⟨d,aL⟩
  rw[o1 s e2]at hs';obtain⟨e,he⟩:=h.held s hs';exact⟨e,by show up K.N r (some d) s=_;rw[aP e2];exact he⟩
 mx:=λs=>by
  show cq.getD s 0<=65535;by_cases e2:s=r
  ·subst e2;rw[o0];decide
  rw[o1 s e2];exact h.mx s
 room:=by
  have:=(qt (N:=K.N) (s:=r) (o:=some d) (k:=K.cap)).1 h2.2;have hr':=h.room;rw[hr]at this;show K.used+1=2+me (up K.N r (some d)) K.cap;simp at this;omega
 cap:=⟨by show K.used+1<=K.cap;omega,h.cap.2⟩
theorem jw.aeS(h:jw K S E P){r:Nat}{d:Nd}(hd:K.N r=some d)(hE:¬E r):jw {K with T:=pB K.T d none} S (λs=>E s\/s=r) P where
 two:=h.two
 var:=h.var
 ne:=h.ne
 lo:=h.lo
 hi:=h.hi
 int:=h.int
 jy:=λe s=>by
  show pB K.T d none e=some s↔_;by_cases e2:e=d
  ·subst e2;rw[iR];constructor
   ·intro h;cases h
   rintro⟨h1,h2⟩;have a:=(h.jy e s).2 ⟨h1,λx=>h2 (.inl x)⟩;have b:=(h.jy e r).2 ⟨hd,hE⟩;rw[a]at b;cases b;exact absurd (.inr rfl) h2
  rw[oC e2,h.jy];constructor
  ·rintro⟨h1,h2⟩;refine⟨h1,λx=>?_⟩;rcases x with x|rfl
   ·exact h2 x
   have uV:K.N s=some e:=h1;rw[hd]at uV;cases uV;exact e2 rfl
  rintro⟨h1,h2⟩;exact⟨h1,λx=>h2 (.inl x)⟩
 use:=h.use
 len:=h.len
 fit:=h.fit
 held:=h.held
 mx:=h.mx
 room:=h.room
 cap:=h.cap
theorem jw.yV(h:jw K S E P){r:Nat}{d d':Nd}{P':Nat->Nat}(hd:K.N r=some d)(hE:E r)(hv:d'.v<K.n)(hne:d'.lo≠d'.hi)(hlo:live K.N d'.lo)(hhi:live K.N d'.hi)(hT:K.T d'=none)(hS:∀x,S r x=ite S d' x)
 (hP:∀s,2<=s->P' s+e1 (some d') s=P s+e1 (some d) s):jw {K with N:=up K.N r (some d'),T:=pB K.T d' (some r)} S (λs=>E s/\s≠r) P' where
 two:=λ{s e} hs=>by
  have hs':up K.N r (some d') s=some e:=hs;by_cases e2:s=r
  ·subst e2;exact h.two hd
  rw[aP e2]at hs';exact h.two hs'
 var:=λ{s e} hs=>by
  have hs':up K.N r (some d') s=some e:=hs;by_cases e2:s=r
  ·subst e2;rw[aL]at hs';cases hs';exact hv
  rw[aP e2]at hs';exact h.var hs'
 ne:=λ{s e} hs=>by
  have hs':up K.N r (some d') s=some e:=hs;by_cases e2:s=r
  ·subst e2;rw[aL]at hs';cases hs';exact hne
  rw[aP e2]at hs';exact h.ne hs'
 lo:=λ{s e} hs=>by
  have hs':up K.N r (some d') s=some e:=hs;by_cases e2:s=r
  ·subst e2;rw[aL]at hs';cases hs';exact jJ hlo
  rw[aP e2]at hs';exact jJ (h.lo hs')
 hi:=λ{s e} hs=>by
  have hs':up K.N r (some d') s=some e:=hs;by_cases e2:s=r
  ·subst e2;rw[aL]at hs';cases hs';exact jJ hhi
  rw[aP e2]at hs';exact jJ (h.hi hs')
 int:=⟨h.int.zero,h.int.one,λ{s e} hs x=>by
  have hs':up K.N r (some d') s=some e:=hs;by_cases e2:s=r
  ·subst e2;rw[aL]at hs';cases hs';exact hS x
  rw[aP e2]at hs';exact h.int.node hs' x⟩
 jy:=λe s=>by
  show pB K.T d' (some r) e=some s↔up K.N r (some d') s=some e/\¬(E s/\s≠r);by_cases e2:e=d'
  ·subst e2;rw[iR];constructor
   ·intro h;cases h;exact⟨aL,λx=>x.2 rfl⟩
   rintro⟨h1,o9⟩;by_cases e3:s=r
   ·rw[e3]
   rw[aP e3]at h1;have a:=(h.jy e s).2 ⟨h1,λx=>o9 ⟨x,e3⟩⟩;rw[hT]at a;cases a
  rw[oC e2,h.jy];by_cases e3:s=r
  ·subst e3;rw[aL];constructor
   ·rintro⟨_,h1⟩;exact absurd hE h1
   rintro⟨h1,_⟩;cases h1;exact absurd rfl e2
  rw[aP e3];constructor
  ·rintro⟨h1,h2⟩;exact⟨h1,λx=>h2 x.1⟩
  rintro⟨h1,h2⟩;exact⟨h1,λx=>h2 ⟨x,e3⟩⟩
 use:=λ{s e} hs=>by
  have hs':up K.N r (some d') s=some e:=hs;have he:=u7 (N:=K.N) (s:=r) (r:=s) (k:=K.cap) (o:=some d') (h.two hd).2;rw[hd]at he;show K.use s=c8 (up K.N r (some d')) s K.cap+(if K.hold s=0 then 0 else 1)+P' s;by_cases e2:s=r
  ·subst e2;have hu:=h.use hd;have:=hP s (h.two hd).1;omega
  rw[aP e2]at hs';have hu:=h.use hs';have:=hP s (h.two hs').1;omega
 len:=h.len
 fit:=λ{s e} hs=>by
  have hs':up K.N r (some d') s=some e:=hs;by_cases e2:s=r
  ·subst e2;exact h.fit hd
  rw[aP e2]at hs';exact h.fit hs'
 held:=λs hs=>by
  obtain⟨e,he⟩:=h.held s hs;by_cases e2:s=r
  ·subst e2;exact⟨d',aL⟩
  exact⟨e,by show up K.N r (some d') s=_;rw[aP e2];exact he⟩
 mx:=h.mx
 room:=by
  have:=(qt (N:=K.N) (s:=r) (o:=some d') (k:=K.cap)).1 (h.two hd).2;have hr':=h.room;rw[hd]at this;show K.used=2+me (up K.N r (some d')) K.cap;simp at this;omega
 cap:=h.cap
theorem jw.keep(h:jw K S E P){r:Nat}{di cq:zL}(hr:∃d,K.N r=some d)(hm:K.hold r<65535)(hl:di.length=K.us.length/\cq.length=K.ho.length)(o0:cq.getD r 0=K.hold r+1)(o1:∀s,s≠r->cq.getD s 0=K.hold s)
 (u0:di.getD r 0=K.use r+(if K.hold r=0 then 1 else 0))(u1:∀s,s≠r->di.getD s 0=K.use s):jw {K with us:=di,ho:=cq} S E P where
 two:=h.two
 var:=h.var
 ne:=h.ne
 lo:=h.lo
 hi:=h.hi
 int:=h.int
 jy:=h.jy
 use:=λ{s e} hs=>by
  have hu:=h.use hs;show di.getD s 0=c8 K.N s K.cap+(if cq.getD s 0=0 then 0 else 1)+P s;by_cases e2:s=r
  ·subst e2;rw[u0,o0,xac (by omega:¬K.hold s+1=0)];by_cases e3:K.hold s=0
   ·rw[xae e3]at hu⊢;omega
   rw[xac e3]at hu⊢;omega
  rw[u1 s e2,o1 s e2];exact hu
 len:=by show di.length=cq.length;rw[hl.1,hl.2];exact h.len
 fit:=λ{s e} hs=>by show s<di.length;rw[hl.1];exact h.fit hs
 held:=λs hs=>by
  have hs':cq.getD s 0≠0:=hs;by_cases e2:s=r
  ·subst e2;exact hr
  rw[o1 s e2]at hs';exact h.held s hs'
 mx:=λs=>by
  show cq.getD s 0<=65535;by_cases e2:s=r
  ·subst e2;rw[o0];omega
  rw[o1 s e2];exact h.mx s
 room:=h.room
 cap:=h.cap
theorem jw.drop(h:jw K S E P){r:Nat}{cq:zL}(hr:0<K.hold r)(hl:cq.length=K.ho.length)(o0:cq.getD r 0+1=K.hold r)(o1:∀s,s≠r->cq.getD s 0=K.hold s):
  jw {K with ho:=cq} S E (if K.hold r=1 then up P r (P r+1)else P) where
 two:=h.two
 var:=h.var
 ne:=h.ne
 lo:=h.lo
 hi:=h.hi
 int:=h.int
 jy:=h.jy
 use:=λ{s e} hs=>by
  have hu:=h.use hs;show K.use s=c8 K.N s K.cap+(if cq.getD s 0=0 then 0 else 1)+(if K.hold r=1 then up P r (P r+1)else P) s;by_cases e2:s=r
  ·subst e2;rw[xac (by omega:¬K.hold s=0)]at hu;by_cases e3:K.hold s=1
   ·rw[xae e3,aL,xae zO];omega
   rw[xac e3,xac zO];omega
  rw[o1 s e2];by_cases e3:K.hold r=1
  ·rw[xae e3,aP e2];exact hu
  rw[xac e3];exact hu
 len:=by show K.us.length=cq.length;rw[hl];exact h.len
 fit:=h.fit
 held:=λs hs=>by
  have hs':cq.getD s 0≠0:=hs;by_cases e2:s=r
  ·subst e2;exact h.held s zO
  rw[o1 s e2]at hs';exact h.held s hs'
 mx:=λs=>by
  show cq.getD s 0<=65535;have:=h.mx r;by_cases e2:s=r
  ·subst e2;omega
  rw[o1 s e2];exact h.mx s
 room:=h.room
 cap:=h.cap
theorem jw.congr(h:jw K S E P){E':Nat->Prop}{P':Nat->Nat}(hE:∀s,E s↔E' s)(hP:∀s,2<=s->P s=P' s):jw K S E' P' where
 two:=h.two
 var:=h.var
 ne:=h.ne
 lo:=h.lo
 hi:=h.hi
 int:=h.int
 jy:=λd r=>by rw[h.jy,hE]
 use:=λ{s e} hs=>by rw[<-hP s (h.two hs).1];exact h.use hs
 len:=h.len
 fit:=h.fit
 held:=h.held
 mx:=h.mx
 room:=h.room
 cap:=h.cap
def iu:Nat->Prop:=λ_=>False
def zero':Nat->Nat:=λ_=>0
structure Ok(K:Kd)(S:Nat->Fn)(ag:Nat->Nat):Prop where
 mid:jw K S iu zero'
 pos:Pos K
 lv:nW K.n ag
 wf:WF K.n ag K.N
theorem jw.uq(h:jw K S iu P){r r':Nat}{d:Nd}(h1:K.N r=some d)(h2:K.N r'=some d):r=r':=by
 have a:=(h.jy d r).2 ⟨h1,λx=>x⟩;have b:=(h.jy d r').2 ⟨h2,λx=>x⟩;rw[a]at b;cases b;rfl
theorem jw.wf(h:jw K S iu P){ag:Nat->Nat}(hl:∀{r d},K.N r=some d->ag d.v<dep K.n ag K.N d.lo/\ag d.v<dep K.n ag K.N d.hi):WF K.n ag K.N:=
 ⟨λhd=>(h.two hd).1,h.var,h.ne,λhd=>⟨h.lo hd,(hl hd).1⟩,λhd=>⟨h.hi hd,(hl hd).2⟩,h.uq⟩
theorem Ok.reach{ag:Nat->Nat}(h:Ok K S ag):Reach K.N (λr=>K.hold r≠0):=λr d hd=>by
 have hu:=h.mid.use hd;have hp:=h.pos r d hd;by_cases e:K.hold r=0
 ·rw[xae e]at hu;have:zero' r=0:=rfl;obtain⟨s,e',_,h1,h2⟩:=rG (N:=K.N) (r:=r) (k:=K.cap) zO;exact .inr ⟨s,e',h1,h2⟩
 exact .inl e
theorem Ok.dom{ag:Nat->Nat}(h:Ok K S ag):∃dom:zL,dom.Nodup/\dom.length+2=K.used/\∀r,r∈dom↔∃d,K.N r=some d:=by
 refine⟨(List.range K.cap).filter λr=>(K.N r).isSome,xbs.filter _,by rw[Cu,h.mid.room];omega,λr=>?_⟩;rw[xcS,xaO,xdM];exact⟨λh=>h.2,λ⟨d,hd⟩=>⟨(h.mid.two hd).2,d,hd⟩⟩
def Kd.held(K:Kd)(S:Nat->Fn):Fn->Prop:=Fs S λr=>K.hold r≠0
theorem Ok.size{ag:Nat->Nat}{ord:zL}(h:Ok K S ag)(ho:Ord K.n ag ord):pA (bc K.n ord (K.held S)) (K.used-2):=by
 obtain⟨dom,h1,h2,h3⟩:=h.dom;have hc:=yx h.wf h.lv h.mid.int h1 h3;rw[show dom.length=K.used-2 by omega]at hc;refine hc.congr λg=>?_;exact(mH h.wf h.lv ho h.mid.int (λr hr=>.inr (h.mid.held r hr)) h.reach g).symm
end aC
namespace aC
open ak
variable {n:Nat} {ag:Nat->Nat} {N:dU} {S:Nat->Fn} {ord:zL} {K:Kd}
def pl(N:dU)(y r:Nat):Nat:=match N r with|some e=>if e.v=y then e.lo else r|none=>r
def ph(N:dU)(y r:Nat):Nat:=match N r with|some e=>if e.v=y then e.hi else r|none=>r
theorem TE{y r:Nat}{e:Nd}(h:N r=some e)(hv:e.v=y):pl N y r=e.lo/\ph N y r=e.hi:=by simp[pl,ph,h,hv]
theorem TJ{y r:Nat}(h:∀e,N r=some e->e.v≠y):pl N y r=r/\ph N y r=r:=by
 unfold pl ph;cases hr:N r with
 |none=>exact⟨rfl,rfl⟩
 |some e=>simp[h e hr]
theorem WF.half(h:WF n ag N)(hl:nW n ag)(hi:Interp N S){y l r:Nat}(hy:y<n/\ag y=l+1)(hr:live N r)(hd:l<dep n ag N r):
  (live N (pl N y r)/\l+1<dep n ag N (pl N y r))/\(live N (ph N y r)/\l+1<dep n ag N (ph N y r))/\∀z,S r z=if z.testBit y then S (ph N y r) z else S (pl N y r) z:=by
 by_cases e:∃e,N r=some e/\e.v=y
 ·obtain⟨e,he,hv⟩:=e;obtain⟨p1,p2⟩:=TE he hv;rw[p1,p2];have h1:=h.lo he;have h2:=h.hi he;rw[hv,hy.2]at h1 h2;exact⟨h1,h2,λz=>by rw[hi.node he,hv]⟩
 have ho:∀e',N r=some e'->e'.v≠y:=λe' h1 h2=>e ⟨e',h1,h2⟩;obtain⟨p1,p2⟩:=TJ ho;rw[p1,p2];have wU:l+1<dep n ag N r:=by
  rcases hr with hr|⟨e',he⟩
  ·rw[bj (h.const hr)];have:=hl.lt y hy.1;omega
  rw[ay he]at hd⊢;have h1:=ho e' he;refine Nat.lt_of_le_of_ne hd λe2=>h1 (hl.inj _ _ (h.var he) hy.1 zO)
 exact⟨⟨hr,wU⟩,⟨hr,wU⟩,λz=>by split<;>rfl⟩
theorem WF.UG(h:WF n ag N)(hl:nW n ag)(hi:Interp N S){y l a b:Nat}(hy:y<n/\ag y=l+1)(ha:live N a)(hb:live N b)(da:l<dep n ag N a)(db:l<dep n ag N b)
 (h1:pl N y a=pl N y b)(h2:ph N y a=ph N y b):a=b:=by
 refine h.same hl hi ha hb λz=>?_;rw[(h.half hl hi hy ha da).2.2 z,(h.half hl hi hy hb db).2.2 z,h1,h2]
structure Cx where
 r:Nat
 d:Nd
 wY:Nat
 wX:Nat
 sK:Nat
 sJ:Nat
def lF(N:dU)(x y r:Nat)(d:Nd):Prop:=N r=some d/\d.v=x/\((∃e,N d.lo=some e/\e.v=y)\/∃e,N d.hi=some e/\e.v=y)
def m5(N:dU)(y r:Nat)(d:Nd):Cx:=⟨r,d,pl N y d.lo,ph N y d.lo,pl N y d.hi,ph N y d.hi⟩
structure Jx(N:dU)(x y:Nat)(l:List Cx):Prop where
 nd:(l.map Cx.r).Nodup
 mem:∀c,c∈l↔lF N x y c.r c.d/\c=m5 N y c.r c.d
def keys(x:Nat)(c:Cx):List Nd:=[⟨x,c.wY,c.sK⟩,⟨x,c.wX,c.sJ⟩]
structure Made(K:Kd)(x:Nat)(l:List Cx)(made:List Nd):Prop where
 nd:made.Nodup
 mem:∀k,k∈made↔(∃c∈l,k∈keys x c)/\K.T k=none/\k.lo≠k.hi
structure Nb(n:Nat)(ag:Nat->Nat)(x y l:Nat):Prop where
 xn:x<n
 yn:y<n
 lx:ag x=l
 ly:ag y=l+1
variable {x y l:Nat}
theorem Nb.ne(h:Nb n ag x y l):x≠y:=λe=>by have h1:=h.lx;have h2:=h.ly;rw[e]at h1;omega
theorem Nb.yy(h:Nb n ag x y l):y<n/\ag y=l+1:=⟨h.yn,h.ly⟩
theorem kj(h:WF n ag N)(hl:nW n ag)(hi:Interp N S)(hb:Nb n ag x y l){r:Nat}{d:Nd}(hd:N r=some d)(hx:d.v=x){k:Nd}(hk:k∈keys x (m5 N y r d)):
  k.v=x/\(live N k.lo/\l+1<dep n ag N k.lo)/\(live N k.hi/\l+1<dep n ag N k.hi):=by
 have h1:=h.lo hd;have h2:=h.hi hd;rw[hx,hb.lx]at h1 h2;have a:=h.half hl hi hb.yy h1.1 h1.2;have b:=h.half hl hi hb.yy h2.1 h2.2;simp only[keys,m5,xag,xaw,xaZ]at hk;rcases hk with rfl|rfl
 ·exact⟨rfl,a.1,b.1⟩
 exact⟨rfl,a.2.1,b.2.1⟩
theorem ve(h:WF n ag N)(hl:nW n ag)(hi:Interp N S)(hb:Nb n ag x y l){r:Nat}{d:Nd}(hd:N r=some d)(hx:d.v=x)(z:Nat):
  S r z=if z.testBit y then ite S ⟨x,ph N y d.lo,ph N y d.hi⟩ z else ite S ⟨x,pl N y d.lo,pl N y d.hi⟩ z:=by
 have h1:=h.lo hd;have h2:=h.hi hd;rw[hx,hb.lx]at h1 h2;have a:=(h.half hl hi hb.yy h1.1 h1.2).2.2 z;have b:=(h.half hl hi hb.yy h2.1 h2.2).2.2 z;rw[hi.node hd,hx,a,b];unfold ite;simp only;cases z.testBit x<;>cases z.testBit y<;>rfl
theorem iG(h:WF n ag N)(hl:nW n ag)(hi:Interp N S)(hb:Nb n ag x y l){k:Nd}(hk:k.v=x)(h1:live N k.lo/\l+1<dep n ag N k.lo)(h2:live N k.hi/\l+1<dep n ag N k.hi)(z:Nat)(b:Bool):
  ite S k (aB z x b)=S (if b then k.hi else k.lo) z:=by
 unfold ite;rw[hk,ai,xae rfl];cases b
 ·simp only[xaD,xaT];exact h.bW hl hi h1.1 hb.xn (by rw[hb.lx];omega) z false
 simp only[xa7];exact h.bW hl hi h2.1 hb.xn (by rw[hb.lx];omega) z true
theorem iP(h:WF n ag N)(hl:nW n ag)(hi:Interp N S)(hb:Nb n ag x y l){k:Nd}(hk:k.v=x)(h1:live N k.lo/\l+1<dep n ag N k.lo)(h2:live N k.hi/\l+1<dep n ag N k.hi){u:Nat}(hu:u<n)(PS:ag u<=l+1)(hne:u≠x)(z:Nat)(b:Bool):
  ite S k (aB z u b)=ite S k z:=by
 unfold ite;rw[hk,ai,xac (xbn hne),h.bW hl hi h1.1 hu zO,h.bW hl hi h2.1 hu zO]
theorem jc(h:WF n ag N)(hl:nW n ag)(hi:Interp N S){r:Nat}{d:Nd}(hd:N r=some d):∃z,S r (aB z d.v false)≠S r (aB z d.v true):=by
 refine xaY λhno=>h.ne hd (h.same hl hi (h.lo hd).1 (h.hi hd).1 λz=>?_);have c1:=h.child hl hi hd z false;have c2:=h.child hl hi hd z true;simp only[xaD,xaT,xa7]at c1 c2;rw[<-c1,<-c2];exact xaY λhne=>hno ⟨z,hne⟩
theorem PD(h:WF n ag N)(hl:nW n ag)(hi:Interp N S)(hb:Nb n ag x y l){k:Nd}(hk:k.v=x)(hne:k.lo≠k.hi)(h1:live N k.lo/\l+1<dep n ag N k.lo)(h2:live N k.hi/\l+1<dep n ag N k.hi)
 {r:Nat}{d:Nd}(hd:N r=some d)(he:ite S k=S r):d=k:=by
 have hv:=h.var hd;have hvx:d.v=x:=by
  rcases xcW (ag d.v) l with hlt|heq|hgt
  ·obtain⟨z,hz⟩:=jc h hl hi hd;have aaZ:d.v≠x:=λe=>by rw[e,hb.lx]at hlt;omega
   rw[<-he,iP h hl hi hb hk h1 h2 hv zO aaZ,iP h hl hi hb hk h1 h2 hv zO aaZ]at hz;exact absurd rfl hz
  ·exact hl.inj _ _ hv hb.xn (by rw[hb.lx];exact heq)
  refine absurd (h.same hl hi h1.1 h2.1 λz=>?_) hne;have c1:=iG h hl hi hb hk h1 h2 z false;have c2:=iG h hl hi hb hk h1 h2 z true;simp only[xaD,xaT,xa7]at c1 c2;have UC:ag x<dep n ag N r:=by rw[ay hd,hb.lx];exact hgt
  rw[<-c1,<-c2,he,h.bW hl hi (.inr ⟨d,hd⟩) hb.xn UC,h.bW hl hi (.inr ⟨d,hd⟩) hb.xn UC]
 have c:∀(b:Bool) z,S (if b then k.hi else k.lo) z=S (if b then d.hi else d.lo) z:=λ(b:Bool) z=>by
  rw[<-iG h hl hi hb hk h1 h2 z b,he,<-hvx,h.child hl hi hd z b]
 have e1:=h.same hl hi h1.1 (h.lo hd).1 (λz=>by simpa using c false z);have e2:=h.same hl hi h2.1 (h.hi hd).1 (λz=>by simpa using c true z);cases d;cases k;simp_all
theorem Ue(h:WF n ag N)(hl:nW n ag)(hi:Interp N S)(hb:Nb n ag x y l){k k':Nd}(hk:k.v=x)(hk':k'.v=x)(h1:live N k.lo/\l+1<dep n ag N k.lo)(h2:live N k.hi/\l+1<dep n ag N k.hi)
 (uV:live N k'.lo/\l+1<dep n ag N k'.lo)(o9:live N k'.hi/\l+1<dep n ag N k'.hi)(he:ite S k=ite S k'):k=k':=by
 have c:∀(b:Bool) z,S (if b then k.hi else k.lo) z=S (if b then k'.hi else k'.lo) z:=λ(b:Bool) z=>by
  rw[<-iG h hl hi hb hk h1 h2 z b,he,iG h hl hi hb hk' uV o9 z b]
 have e1:=h.same hl hi h1.1 uV.1 (λz=>by simpa using c false z);have e2:=h.same hl hi h2.1 o9.1 (λz=>by simpa using c true z);cases k;cases k';simp_all
def fT(ord:zL)(l:Nat):zL:=(ord.set l (ord.getD (l+1) 0)).set (l+1) (ord.getD l 0)
theorem kS(ord:zL)(l:Nat):(fT ord l).length=ord.length:=by simp[fT]
theorem eL{i:Nat}(hl:l+1<ord.length):(fT ord l).getD i 0=if i=l then ord.getD (l+1) 0 else if i=l+1 then ord.getD l 0 else ord.getD i 0:=by
 unfold fT;rw[xan,xbH,xbH];by_cases e1:l+1=i
 ·subst e1;rw[xae rfl,xae zP,xac zO,xae rfl];rfl
 rw[xac e1];by_cases e2:l=i
 ·subst e2;rw[xae rfl,xae zO,xae rfl];rfl
 rw[xac e2,xac (λe=>e2 e.symm),xac (λe=>e1 e.symm),<-xan]
def sO(ag:Nat->Nat)(x y l:Nat):Nat->Nat:=λv=>if v=x then l+1 else if v=y then l else ag v
theorem Th(hl:nW n ag)(hb:Nb n ag x y l):nW n (sO ag x y l):=by
 have XE:=hl.lt y hb.yn;rw[hb.ly]at XE;have key:∀v,v<n->v≠x->v≠y->ag v≠l/\ag v≠l+1:=λv hv h1 h2=>⟨λe=>h1 (hl.inj _ _ hv hb.xn (by rw[hb.lx];exact e)),λe=>h2 (hl.inj _ _ hv hb.yn (by rw[hb.ly];exact e))⟩;refine⟨λv hv=>?_,λu v hu hv he=>?_⟩
 ·unfold sO;split
  ·exact XE
  split
  ·omega
  exact hl.lt v hv
 unfold sO at he;by_cases u1:u=x
 ·by_cases v1:v=x
  ·rw[u1,v1]
  rw[xae u1,xac v1]at he;by_cases v2:v=y
  ·rw[xae v2]at he;omega
  rw[xac v2]at he;exact absurd he.symm (key v hv v1 v2).2
 rw[xac u1]at he;by_cases u2:u=y
 ·rw[xae u2]at he;by_cases v1:v=x
  ·rw[xae v1]at he;omega
  rw[xac v1]at he;by_cases v2:v=y
  ·rw[u2,v2]
  rw[xac v2]at he;exact absurd he.symm (key v hv v1 v2).1
 rw[xac u2]at he;by_cases v1:v=x
 ·rw[xae v1]at he;exact absurd he (key u hu u1 u2).2
 rw[xac v1]at he;by_cases v2:v=y
 ·rw[xae v2]at he;exact absurd he (key u hu u1 u2).1
 rw[xac v2]at he;exact hl.inj _ _ hu hv he
theorem Ord.nb(ho:Ord n ag ord)(hl:l+1<n):Nb n ag (ord.getD l 0) (ord.getD (l+1) 0) l:=
 ⟨(ho.at' l zO).1,(ho.at' (l+1) hl).1,(ho.at' l zO).2,(ho.at' (l+1) hl).2⟩
theorem Tg(ho:Ord n ag ord)(hl:l+1<n):Ord n (sO ag (ord.getD l 0) (ord.getD (l+1) 0) l) (fT ord l):=by
 have hb:=ho.nb hl;refine⟨by rw[kS,ho.len],λi hi=>?_⟩;rw[eL (by rw[ho.len];exact hl)];unfold sO;by_cases e1:i=l
 ·subst e1;rw[xae rfl];refine⟨hb.yn,?_⟩;rw[xac (xbn hb.ne),xae rfl]
 rw[xac e1];by_cases e2:i=l+1
 ·subst e2;rw[xae rfl];refine⟨hb.xn,?_⟩;rw[xae rfl]
 rw[xac e2];obtain⟨h1,h2⟩:=ho.at' i hi;refine⟨h1,?_⟩;rw[xac,xac]
 ·exact h2
 ·intro e;rw[e,hb.ly]at h2;omega
 intro e;rw[e,hb.lx]at h2;omega
variable {F:Fn->Prop}
theorem EF(hl:l+1<ord.length)(hne:ord.getD l 0≠ord.getD (l+1) 0):∀m,m≠l+1->∀g,fs (fT ord l) F m g↔fs ord F m g
 |0,_,g=>xdg
 |m+1,hm,g=>by
  by_cases e:m=l+1
  ·subst e;have g1:(fT ord l).getD (l+1) 0=ord.getD l 0:=by rw[eL hl,xac zO,xae rfl]
   have g2:(fT ord l).getD l 0=ord.getD (l+1) 0:=by rw[eL hl,xae rfl]
   have ih:=EF hl hne l zO;constructor
   ·rintro⟨f,⟨f',h,b,rfl⟩,b',rfl⟩;refine⟨_,⟨f',(ih f').1 h,b',rfl⟩,b,?_⟩
    funext z
    rw[g1,g2];show f' _=f' _;rw[dk hne]
   rintro⟨f,⟨f',h,b,rfl⟩,b',rfl⟩;refine⟨_,⟨f',(ih f').2 h,b',rfl⟩,b,?_⟩
   funext z
   rw[g1,g2];show f' _=f' _;rw[dk (xbn hne)]
  have ih:=EF hl hne m e;have hg:(fT ord l).getD m 0=ord.getD m 0:=by rw[eL hl,xac zO,xac e]
  constructor
  ·rintro⟨f,h,b,rfl⟩;exact⟨f,(ih f).1 h,b,by rw[hg]⟩
  rintro⟨f,h,b,rfl⟩;exact⟨f,(ih f).2 h,b,by rw[hg]⟩
theorem N9(h:Ok K S ag)(ho:Ord K.n ag ord)(KW:l+1<K.n){all:List Cx}(hc:Jx K.N (ord.getD l 0) (ord.getD (l+1) 0) all){made:List Nd}(hm:Made K (ord.getD l 0) all made):
  pA (λg=>bc K.n ord (K.held S) g\/bc K.n (fT ord l) (K.held S) g) (K.used-2+made.length):=by
 have hb:=ho.nb KW;have hlen:l+1<ord.length:=by rw[ho.len];exact KW
 have hw:=h.wf;have hlv:=h.lv;have hi:=h.mid.int;have hR:∀r,K.hold r≠0->live K.N r:=λr hr=>.inr (h.mid.held r hr);generalize hx:ord.getD l 0=x at*;generalize hy:ord.getD (l+1) 0=y at*;have lp:∀k∈made,k.v=x/\(live K.N k.lo/\l+1<dep K.n ag K.N k.lo)/\(live K.N k.hi/\l+1<dep K.n ag K.N k.hi):=λk hk=>by
  obtain⟨⟨c,Le,hkc⟩,_⟩:=(hm.mem k).1 hk;obtain⟨⟨hd,Qj,_⟩,e⟩:=(hc.mem c).1 Le;rw[e]at hkc;exact kj hw hlv hi hb hd Qj hkc
 obtain⟨dom,d1,d2,d3⟩:=h.dom;have c1:=yx hw hlv hi d1 d3;rw[show dom.length=K.used-2 by omega]at c1;have c2:pA (λg=>∃k∈made,g=ite S k) made.length:=by
  refine⟨made.map (ite S),?_,by simp,λg=>?_⟩
  ·refine xb9.2 (hm.nd.imp_of_mem λ{a b} ha hb' hne heq=>hne ?_);obtain⟨a1,a2,a3⟩:=lp a ha;obtain⟨b1,b2,b3⟩:=lp b hb';exact Ue hw hlv hi hb a1 b1 a2 a3 b2 b3 heq
  rw[xam];constructor
  ·rintro⟨k,hk,rfl⟩;exact⟨k,hk,rfl⟩
  rintro⟨k,hk,rfl⟩;exact⟨k,hk,rfl⟩
 refine(c1.or c2 ?_).congr λg=>?_
 ·rintro g ⟨r,d,hd,rfl⟩ ⟨k,hk,he⟩;obtain⟨a1,a2,a3⟩:=lp k hk;obtain⟨_,hT,hne⟩:=(hm.mem k).1 hk;have:=PD hw hlv hi hb a1 hne a2 a3 hd he.symm;subst this;rw[(h.mid.jy d r).2 ⟨hd,λx=>x⟩]at hT;cases hT
 have hns:=mH hw hlv ho hi hR h.reach;have mr:=λm (hmn:m<=K.n) g=>Ln hw hlv ho hi hR m hmn g;have hne:ord.getD l 0≠ord.getD (l+1) 0:=by rw[hx,hy];exact hb.ne
 have AA:=EF (F:=K.held S) hlen hne;have gl:(fT ord l).getD l 0=y:=by rw[eL hlen,xae rfl,hy]
 have gl1:(fT ord l).getD (l+1) 0=x:=by rw[eL hlen,xac zO,xae rfl,hx]
 have go:∀m,m≠l->m≠l+1->(fT ord l).getD m 0=ord.getD m 0:=λm h1 h2=>by rw[eL hlen,xac h1,xac h2]
 constructor
 ·rintro(⟨r,d,hd,rfl⟩|⟨k,hk,rfl⟩)
  ·exact .inl ((hns _).2 ⟨r,d,hd,rfl⟩)
  obtain⟨a1,a2,a3⟩:=lp k hk;obtain⟨⟨c,Le,hkc⟩,hT,XV⟩:=(hm.mem k).1 hk;obtain⟨⟨hd,Qj,_⟩,e⟩:=(hc.mem c).1 Le;refine .inr ⟨l+1,KW,?_,?_⟩
  ·have hA:=WU hw h.reach _ c.r c.d hd (xal _);rw[Qj,hb.lx]at hA;refine⟨S c.r,(AA l zO _).2 ((mr l zO _).2 ⟨c.r,hA,rfl⟩),?_⟩;have hcf:=ve hw hlv hi hb hd Qj;rw[e]at hkc;simp only[keys,m5,xag,xaw,xaZ]at hkc;rw[gl];rcases hkc with rfl|rfl
   ·refine⟨false,?_⟩
    funext z
    rw[hcf,ai,xae rfl,xac zI,iP hw hlv hi hb rfl a2 a3 hb.yn (by rw[hb.ly];exact xal _) (xbn hb.ne)]
   refine⟨true,?_⟩
   funext z
   rw[hcf,ai,xae rfl,xae rfl,iP hw hlv hi hb rfl a2 a3 hb.yn (by rw[hb.ly];exact xal _) (xbn hb.ne)]
  rw[gl1];refine xaY λhno=>XV (hw.same hlv hi a2.1 a3.1 λz=>?_);have c1:=iG hw hlv hi hb a1 a2 a3 z false;have c2:=iG hw hlv hi hb a1 a2 a3 z true;simp only[xaD,xaT,xa7]at c1 c2;rw[<-c1,<-c2];exact xaY λhne=>hno ⟨z,hne⟩
 rintro(hg|⟨m,hmn,hf,hh⟩)
 ·exact .inl ((hns g).1 hg)
 by_cases e1:m=l+1
 ·subst e1;rw[gl1]at hh;obtain⟨f,hf,b,rfl⟩:=hf;rw[gl]at hh⊢;obtain⟨r,hA,rfl⟩:=(mr l zO f).1 ((AA l zO f).1 hf);obtain⟨hlr,hle⟩:=rV hw hR l r hA;have hgt:dep K.n ag K.N r=l:=by
   refine xeB (xcY λhlt=>?_) hle;obtain⟨z,hz⟩:=hh;refine hz ?_;show S r (aB (aB z x false) y b)=S r (aB (aB z x true) y b);rw[dk hb.ne,dk hb.ne,hw.bW hlv hi hlr hb.xn (by rw[hb.lx];exact hlt),hw.bW hlv hi hlr hb.xn (by rw[hb.lx];exact hlt)]
  rcases hlr with K9|⟨d,hd⟩
  ·rw[bj (hw.const K9)]at hgt;omega
  rw[ay hd]at hgt;have Qj:d.v=x:=hlv.inj _ _ (hw.var hd) hb.xn (by rw[hb.lx];exact hgt);have hcf:=ve hw hlv hi hb hd Qj;have hkk:∃k∈keys x (m5 K.N y r d),(λz=>S r (aB z y b))=ite S k:=by
   cases b
   ·refine⟨_,xbV,?_⟩;obtain⟨a1,a2,a3⟩:=kj hw hlv hi hb hd Qj (k:=⟨x,pl K.N y d.lo,pl K.N y d.hi⟩) xbV
    funext z
    rw[hcf,ai,xae rfl,xac zI,iP hw hlv hi hb rfl a2 a3 hb.yn (by rw[hb.ly];exact xal _) (xbn hb.ne)];rfl
   refine⟨_,xby _ xbV,?_⟩;obtain⟨a1,a2,a3⟩:=kj hw hlv hi hb hd Qj (k:=⟨x,ph K.N y d.lo,ph K.N y d.hi⟩) (xby _ xbV)
   funext z
   rw[hcf,ai,xae rfl,xae rfl,iP hw hlv hi hb rfl a2 a3 hb.yn (by rw[hb.ly];exact xal _) (xbn hb.ne)];rfl
  obtain⟨k,hkm,hke⟩:=hkk;obtain⟨a1,a2,a3⟩:=kj hw hlv hi hb hd Qj hkm;rw[hke]at hh⊢;have XV:k.lo≠k.hi:=λe=>by
   obtain⟨z,hz⟩:=hh;have c1:=iG hw hlv hi hb a1 a2 a3 z false;have c2:=iG hw hlv hi hb a1 a2 a3 z true;simp only[xaD,xaT,xa7]at c1 c2;rw[c1,c2,e]at hz;exact hz rfl
  cases hT:K.T k with
  |some s=>
   have hs:=((h.mid.jy k s).1 hT).1;refine .inl ⟨s,k,hs,?_⟩
   funext z
   exact(hi.node hs z).symm
  |none=>
   by_cases X7:lF K.N x y r d
   ·exact .inr ⟨k,(hm.mem k).2 ⟨⟨m5 K.N y r d,(hc.mem _).2 ⟨X7,rfl⟩,hkm⟩,hT,XV⟩,rfl⟩
   have hno:∀t,t=d.lo\/t=d.hi->pl K.N y t=t/\ph K.N y t=t:=λt ht=>TJ λe he hv=>X7 ⟨hd,Qj,by
    rcases ht with rfl|rfl
    ·exact .inl ⟨e,he,hv⟩
    exact .inr ⟨e,he,hv⟩⟩
   have e1:=hno d.lo (.inl rfl);have e2:=hno d.hi (.inr rfl);have:k=d:=by
    simp only[keys,m5,e1.1,e1.2,e2.1,e2.2,xag,xaw,xaZ,or_self]at hkm;rw[hkm,<-Qj]
   rw[this,(h.mid.jy d r).2 ⟨hd,λx=>x⟩]at hT;cases hT
 by_cases e2:m=l
 ·subst e2;rw[gl]at hh;obtain⟨r,hA,rfl⟩:=(mr m zO g).1 ((AA m e1 g).1 hf);obtain⟨hlr,hle⟩:=rV hw hR m r hA;rcases hlr with K9|⟨d,hd⟩
  ·obtain⟨z,hz⟩:=hh;have:∀z,S r z=S r 0:=λz=>by
    have:r=0\/r=1:=by omega
    rcases this with rfl|rfl
    ·rw[hi.zero,hi.zero]
    rw[hi.one,hi.one]
   rw[this (aB z y false),this (aB z y true)]at hz;exact absurd rfl hz
  exact .inl ⟨r,d,hd,rfl⟩
 refine .inl ((hns g).1 ⟨m,hmn,(AA m e1 g).1 hf,?_⟩);rw[go m e2 e1]at hh;exact hh
end aC
