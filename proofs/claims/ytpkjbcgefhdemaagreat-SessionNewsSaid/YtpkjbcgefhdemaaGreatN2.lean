import Derived.Test.YtpkjbcgefhdemaaGreatN1
import Derived.Defers
import Derived.Test.YtpkjbcgefhdemaaGreatProg
import Derived.RangeFuncIn
import Derived.RangeFuncLeaves
import Derived.RangeFuncRecord
import Derived.RangeFuncSeq
set_option linter.unusedVariables false
set_option linter.unusedSimpArgs false
set_option linter.unusedSectionVars false
namespace Go.Sx
open Go
section
variable {P:Program} {H C:Hp} {c:Hp→Hp}
theorem aT.split(h:aT C H c):∃A B,∀X,c X=A++(X++B):=by
 induction h with
 |here=>exact⟨[],[],fun X=>by simp⟩
 | @left A=>exact⟨[],A,fun X=>rfl⟩
 | @cons x H c h ih=>
  obtain⟨A,B,e⟩:=ih
  exact⟨x::A,B,fun X=>by show x::c X=_;rw[e];rfl⟩
 | @app A' H c h ih=>
  obtain⟨A,B,e⟩:=ih
  exact⟨A'++A,B,fun X=>by show A'++c X=_;rw[e,List.append_assoc]⟩
theorem aT.sub(h:aT C H c):∀x∈C,x∈H:=fun x hx=>by
 obtain⟨A,B,e⟩:=h.split
 rw[h.spec.1,e]
 exact List.mem_append_right _ (List.mem_append_left _ hx)
theorem aD.oN{elem k bytes:Nat}{zero:Value}{v:Value}{rs:List (List Value)}(h:aD elem k v rs C)(hh:aT C H c){xb:Nat}{r:List Value}{xT:TypeId}{fz:Nat×Nat}{xc:Nat}
 (hx:(xb,Obj.cells r.toArray xT fz)∈H)(hr:r.length=k)(h1:∀u∈r,u.oneCell'=true)(hz:∃z:List Value,zero.cells=z.toArray∧z.length=k)
 (hb:(rs.length+1)*bytes≤140737488355328)(bL:rs.length+1≤9223372036854775807){K:Value→Hp→Prop}
 (hk:∀v' C',aD elem k v' (rs++[r]) C'→K v' (c C')):App P elem k bytes zero H v (.slice (some ⟨xb,0,none⟩) 1 xc) K:=by
 obtain⟨A,B,e⟩:=hh.split
 have e2:=hh.spec.1
 rw[e]at e2
 subst e2
 exact h.yW hx hr h1 hz hb bL fun v' C' ho=>by have:=hk v' C' ho;rwa [e]at this
theorem au.oN{T:TypeId}{kd:IntKind}{v:Value}{l:List Int}{bytes:Nat}(h:au T kd v l C)(hh:aT C H c){xb xc:Nat}{x:Int}{xT:TypeId}{fz:Nat×Nat}(hx:(xb,Obj.cells (ai kd [x]) xT fz)∈H)
 (hb:(l.length+1)*bytes≤140737488355328)(hm:l.length+1≤9223372036854775807){K:Value→Hp→Prop}(hk:∀v' C',au T kd v' (l++[x]) C'→K v' (c C')):App P T 1 bytes (.int kd 0) H v (.slice (some ⟨xb,0,none⟩) 1 xc) K:=by
 obtain⟨A,B,e⟩:=hh.split
 have e2:=hh.spec.1
 rw[e]at e2
 subst e2
 exact h.app hx hb hm fun v' C' ho=>by have:=hk v' C' ho;rwa [e]at this
theorem au.zL{T:TypeId}{kd:IntKind}{v x:Value}{l l2:List Int}{bytes:Nat}(h:au T kd v l C)(hh:aT C H c)(hx:dw kd H x l2)
 (hb:(l.length+l2.length)*bytes≤140737488355328)(hm:l.length+l2.length≤9223372036854775807){K:Value→Hp→Prop}(hk:∀v' C',au T kd v' (l++l2) C'→K v' (c C')):App P T 1 bytes (.int kd 0) H v x K:=by
 obtain⟨A,B,e⟩:=hh.split
 have e2:=hh.spec.1
 rw[e]at e2
 subst e2
 exact h.apps hx hb hm fun v' C' ho=>by have:=hk v' C' ho;rwa [e]at this
theorem au.iI{T:TypeId}{kd mW:IntKind}{v:Value}{l:List Int}(hs:au T kd v l C)(hh:aT C H c){i:Nat}{x:Int}(hi:i<l.length){K:Hp→Prop}
 (hk:∀C',au T kd v (l.set i x) C'→K (c C')):ah 1 v (.int mW (i:Int)) fun p=>St 1 H p (.int kd x) K:=by
 obtain⟨A,B,e⟩:=hh.split
 have e2:=hh.spec.1
 rw[e]at e2
 subst e2
 exact hs.put hi fun C' ho=>by have:=hk C' ho;rwa [e]at this
theorem au.one{T:TypeId}{kd:IntKind}{v:Value}{l:List Int}(h:au T kd v l C):v.oneCell'=true:=by obtain⟨a,c,e⟩:=aD.len h;rw[e];rfl
theorem ej(l:List Nat)(i x:Nat):(iw l).set i (x:Int)=iw (l.set i x):=by unfold iw;rw[List.map_set]
theorem cM(a b:List Nat):iw (a++b)=iw a++iw b:=by unfold iw;rw[List.map_append]
theorem bH{l:List Nat}{i:Nat}(h:i<l.length):(iw l)[i]? =some ((l.getD i 0:Nat):Int):=by
 rw[iM (List.getElem?_eq_getElem h)];simp[List.getD,List.getElem?_eq_getElem h]
end
end Go.Sx
namespace Go.Sx
open Go
theorem eE{p:Nat→Prop}(h:∃k,p k):∃k,p k∧∀j,p j→k≤j:=by
 obtain⟨k,hk⟩:=h
 induction k using Nat.strongRecOn with
 |_ k ih=>
  by_cases e:∃j,j<k∧p j
  ·obtain⟨j,hj,hp⟩:=e;exact ih j hj hp
  ·exact⟨k,hk,fun j hp=>Nat.le_of_not_lt fun hlt=>e ⟨j,hlt,hp⟩⟩
open Classical in
noncomputable def fI(J:Nat→List Value→Hp→Prop)(vs:List Value)(H:Hp):Nat:=if h:∃k,J k vs H then Classical.choose (eE h)else 0
theorem s8{J:Nat→List Value→Hp→Prop}{vs:List Value}{H:Hp}{k:Nat}(h:J k vs H):fI J vs H≤k:=by
 unfold fI
 rw[dif_pos ⟨k,h⟩]
 exact(Classical.choose_spec (eE ⟨k,h⟩)).2 k h
theorem nX{J:Nat→List Value→Hp→Prop}{vs:List Value}{H:Hp}(h:∃k,J k vs H):J (fI J vs H) vs H:=by
 unfold fI
 rw[dif_pos h]
 exact(Classical.choose_spec (eE h)).1
def fT(J:Nat→List Value→Hp→Prop):List Value→Hp→Prop:=fun vs H=>∃k,J k vs H
theorem fT.open{J:Nat→List Value→Hp→Prop}{vs:List Value}{H:Hp}(h:fT J vs H):∃k,J k vs H∧k=fI J vs H:=⟨_,nX h,rfl⟩
theorem fT.mk{J:Nat→List Value→Hp→Prop}{vs:List Value}{H:Hp}(k:Nat)(h:J k vs H):JE (fT J) vs H:=JE.mk ⟨k,h⟩
theorem fT.back{J:Nat→List Value→Hp→Prop}{vs vs':List Value}{H H' H0:Hp}{k:Nat}(e:aS H H')(hk:k=fI J vs H0)(k':Nat)(h:J k' vs' H')(hlt:k'<k):av (fT J) (fI J) vs' H vs H0:=
 av.of e ⟨k',h⟩ (Nat.lt_of_le_of_lt (s8 h) (by omega))
theorem Bx{vs:List Value}{H:Hp}{Q:(List Value→Hp→Prop)→(List Value→Hp→Nat)→Prop}(J:Nat→List Value→Hp→Prop)(k:Nat)(h:J k vs H)(hq:Q (fT J) (fI J)):
  ∃(I:List Value→Hp→Prop) (m:List Value→Hp→Nat),JE I vs H∧Q I m:=⟨_,_,fT.mk k h,hq⟩
section
variable {P:Program} {H:Hp}
theorem an.zh{t e:Nat}{kd:IntKind}{x y:Int}{K:Value→Hp→Prop}(h1:P.underlying t=some (.slice e))(h2:bR P e=some 1)(h3:dc P e=some (.int kd 0))
 (h:∀b,K (.slice (some ⟨b,0,Option.none⟩) 2 2) ((b,.cells (ai kd [x,y]) e (0,0))::H)):an P t 2 [(0,.int kd x),(1,.int kd y)] H K:=by
 refine⟨ai kd [x,y],e,1,_,h1,h2,h3,by decide,?_,fun b _=>h b⟩
 have e1:Array.range (2*1)=#[0,1]:=rfl
 simp[Instr.fill,Value.cells,ai,e1]
theorem sW(kd:IntKind)(l:List Int):rows (l.map fun n=>[Value.int kd n])=ai kd l:=by
 unfold rows ai
 congr 1
 induction l with
 |nil=>rfl
 |cons x l ih=>rw[List.map_cons,List.flatten_cons,ih];rfl
theorem au.made{T:TypeId}{kd:IntKind}{b:Nat}(l:List Int):au T kd (.slice (some ⟨b,0,none⟩) l.length l.length) l [(b,.cells (ai kd l) T (0,0))]:=by
 have:=aD.mk' (T:=T) (k:=1) (b:=b) (n:=l.length) (c:=l.length) (rs:=l.map fun n=>[Value.int kd n]) (aK:=[]) (fun r hr=>by
  rw[List.append_nil]at hr
  obtain⟨x,_,rfl⟩:=List.mem_map.1 hr;rfl) (by simp) (by simp)
 rw[List.append_nil,sW]at this
 exact this
end
end Go.Sx
namespace Go.Sx
open Go
section
variable {P:Program} {g:Gh}
structure uK where
 f:FuncId
 l:List Value
def jG(P:Program)(g:Gh)(f:FuncId)(args:Array Value)(H:Hp)(R:Ending→Hp→Prop):Prop:=
 ∀w,Own g H w→∀u,CallsD P f args u w fun e u' w'=>u'=u∧∃H',Own g H' w'∧R e H'
def AW(P:Program)(g:Gh)(f:FuncId)(args:Array Value)(H:Hp)(K:Hp→Prop):Prop:=jG P g f args H fun e H'=>(∃v,e=.returned v)∧K H'
def uQ(P:Program)(g:Gh)(K:Hp→Prop):List uK→Hp→Prop
 | [],H=>K H
 |x::r,H=>AW P g x.f x.l.toArray H (uQ P g K r)
def AV(P:Program)(o:Oper)(ρ:Operand→Value)(k:uK→Prop):Prop:=
 match o.op with
 | .defer c=>match c.callee with
  | .value x=>match ρ x with
   | .func (.func f) first cap=>cond (aG P f) (k ⟨f,first.toList++(c.args.toList.map ρ++cap.toList)⟩) False
   |_=>False
  |_=>False
 |_=>False
def vI:Code→Option (Array Oper×Oper)
 | .region _ ops false=>match ops.toList.getLast? with
  |some o=>match o.op with
   | .defer _=>some (ops,o)
   |_=>none
  |none=>none
 |_=>none
def wB(P:Program)(g:Gh)(fn:Func)(R:Ending→Hp→Prop)(dl:List uK):Exit→Fr→Hp→Prop
 | .normal,fr,H=>uQ P g (fun H'=>jJ P fr H' fn.results.toList fun vs=>R (.returned (o7 vs)) H') dl H
 | .ret,fr,H=>uQ P g (fun H'=>jJ P fr H' fn.results.toList fun vs=>R (.returned (o7 vs)) H') dl H
 |_,_,_=>False
def pR(P:Program)(g:Gh)(n:Nat)(E:List uK→Exit→Fr→Hp→Prop):Code→Hn→List uK→Fr→Hp→Prop
 | .seq x y,hn,dl,fr,H=>
  match vI x with
  |some (ops,o)=>cond (o.dst.isNone&&o.guard.isNone)
    (ca P g n ops false (ops.toList.length+1) false none [] ops.toList.dropLast fr H (fun _ fr' H'=>AV P o (ev fr') fun d=>pR P g n E y hn.b (d::dl) fr' H') (fun _ _=>False)) False
  |none=>match hn.m with
   |0=>den P g n x hn.a (nB (pR P g n E y hn.b dl) (E dl)) fr H
   |_=>cond (xZ x hn.I)
    (Db hn.L.length (fun vs H'=>∀gs,pR P g n E y hn.b dl (mix hn.L vs hn.I fr gs) H') fun J=>den P g n x hn.a (nB (fun fr' H'=>JE J (oV fr' hn.L) H') (E dl)) fr H) False
 |c,hn,dl,fr,H=>den P g n c hn (E dl) fr H
def wE(P:Program)(g:Gh)(fn:Func)(hn:Hn)(args:List Value)(H:Hp)(R:Ending→Hp→Prop):Prop:=
 match fn.body with
 |some c=>cond (Nat.ble args.length fn.ntmps) (pR P g fn.ntmps (wB P g fn R) c hn [] (dO args 0) H) False
 |none=>False
def IT:List PanicEntry→Hp→Prop:=fun _ _=>∀_:Fr,False
def GU(P:Program)(x:uK)(d:Deferred):Prop:=∃cap args,d={target:=.fn (.func x.f) cap,args:=args}∧args++cap=x.l.toArray∧aG P x.f=true
inductive rL(P:Program):List uK→List Deferred→Prop
 |nil:rL P [] []
 |cons {x d l ds} (h:GU P x d) (hr:rL P l ds):rL P (x::l) (d::ds)
theorem jH{fn:Func}{tmps:Array Value}{K:Hp→Prop}{R:Ending→World→Prop}(hK:∀H w,Own g H w→K H→∃v,(results fn tmps).run P w=.ok v w∧R (.returned v) w):
  ∀{dl:List uK} {ds:List Deferred},rL P dl ds→∀H w,Own g H w→uQ P g K dl H→Leaves P fn tmps R ds .returning w
 |_,_,.nil,H,w,hw,h=>hK H w hw h
 |_,_,.cons ⟨cap,args,hd,ha,hc⟩ hr,H,w,hw,h=>by
  subst hd
  refine leaves_cons (by simp) ?_ ((h w hw .returning).mono ?_)
  ·show(callFunc _ (args++cap)).run P w=_
   rw[ha]
   exact cq hc _ w
  ·rintro e u' w' ⟨rfl,H',ho,⟨v,rfl⟩,hk⟩
   exact jH hK hr H' w' ho hk
theorem gL{fn:Func}{R:Ending→Hp→Prop}{n:Nat}{dl:List uK}{ds:List Deferred}(hd:rL P dl ds){e:Exit}{fr:Fr}{H:Hp}{a:Act}{w:World}(ha:aZ ds n a fr)(hw:Own g H w)(h:wB P g fn R dl e fr H):
  bodyPostD P fn (fun e w'=>∃H',Own g H' w'∧R e H') e a w:=by
 have key:∀{H},Own g H w→uQ P g (fun H'=>jJ P fr H' fn.results.toList fun vs=>R (.returned (o7 vs)) H') dl H→Leaves P fn a.tmps (fun e w'=>∃H',Own g H' w'∧R e H') a.defers .returning w:=fun hw h=>by
  rw[ha.defers]
  refine jH (fun H w hw h=>?_) hd _ _ hw h
  obtain⟨vs,hr,hk⟩:=dg ha hw h
  exact⟨_,hr,H,hw,hk⟩
 cases e with
 |normal=>exact key hw h
 |ret=>exact key hw h
 |panic ch=>exact h.elim
 |exit id=>exact h.elim
 |goto l=>exact h.elim
 |outgrown=>exact h.elim
theorem pF{c:Code}{ops:Array Oper}{o:Oper}(h:vI c=some (ops,o)):∃id d,c=.region id ops false∧ops.toList=ops.toList.dropLast++[o]∧o.op=.defer d:=by
 unfold vI at h
 split at h
 ·rename_i id ops'
  split at h
  ·rename_i o' ho
   split at h
   ·rename_i d hd
    simp only[Option.some.injEq,Prod.mk.injEq]at h
    obtain⟨rfl,rfl⟩:=h
    refine⟨id,d,rfl,?_,hd⟩
    obtain⟨hne,e⟩:=List.getLast?_eq_some_iff.1 ho
    rw[e];simp
   ·cases h
  ·cases h
 ·cases h
theorem xf{o:Oper}{fr:Fr}{k:uK→Prop}(h:AV P o (ev fr) k):∃x d,k x∧GU P x d∧∀w,(execOp (ev fr) o).run P w=.ok (.defer d) w:=by
 unfold AV at h
 split at h<;>try exact h.elim
 rename_i c hop
 split at h<;>try exact h.elim
 rename_i x hc
 split at h<;>try exact h.elim
 rename_i f first cap hx
 cases dF:aG P f<;>simp only[dF,cond_true,cond_false]at h
 refine⟨_,{target:=.fn (.func f) cap,args:=first++c.args.map (ev fr)},h,⟨cap,_,rfl,?_,dF⟩,fun w=>?_⟩
 ·apply Array.ext'
  simp
 ·simp only[execOp,hop,resolve,hc,hx,Deferred.ofValue,Sem.run_bind,Sem.run_pure,Result.andThen_ok]
theorem pQ{n:Nat}{fn:Func}{R:Ending→Hp→Prop}:∀(c:Code) (hn:Hn) (dl:List uK) (fr:Fr) (H:Hp),pR P g n (wB P g fn R) c hn dl fr H→∀(ds:List Deferred),rL P dl ds→∀(a:Act) (w:World),aZ ds n a fr→Own g H w→
  c.wp P (bodyPostD P fn fun e w'=>∃H',Own g H' w'∧R e H') a w:=by
 have plain:∀(c:Code) (hn:Hn) (dl:List uK) (fr:Fr) (H:Hp),den P g n c hn (wB P g fn R dl) fr H→∀(ds:List Deferred),rL P dl ds→∀(a:Act) (w:World),aZ ds n a fr→Own g H w→
   c.wp P (bodyPostD P fn fun e w'=>∃H',Own g H' w'∧R e H') a w:=fun c hn dl fr H h ds hd a w ha hw=>
  wp_mono (eL c hn _ fr H h a w ha hw) fun e a' w' ⟨fr',H',cf,cz,_,hq⟩=>gL hd cf cz hq
 intro c
 induction c with
 |seq x y _ ih=>
  intro hn dl fr H h ds hd a w ha hw
  unfold pR at h
  split at h
  ·rename_i ops o hx
   obtain⟨id,d,rfl,hl,hop⟩:=pF hx
   cases hc:(o.dst.isNone&&o.guard.isNone)<;>simp only[hc,cond_true,cond_false]at h
   simp only[Bool.and_eq_true,Option.isNone_iff_eq_none]at hc
   refine wp_seq (wp_region_list ?_)
   rw[hl]
   refine bf _ _ _ _ _ fr H _ _ h trivial (dr.nil fr) a w ha hw [o] _ ?_ ?_
   ·intro a' w' gQ fr' H' cf cz _ _ hk
    refine wpList_plain hc.2 fun K hK=>?_
    obtain⟨x,dd,hx,hok,hrun⟩:=xf hk
    show o.upon P a' K _ ((execOp a'.eval o).run P w')
    rw[cf.eval,hrun]
    refine hK _ _ ?_
    refine ih _ _ fr' H' hx (dd::ds) (.cons hok hd) _ _ ?_ cz
    rw[hc.1]
    exact⟨congrArg _ cf.defers,cf.size,cf.get⟩
   ·intro ch a' w' fr' H' _ _ hk;exact hk.elim
  ·split at h
   ·refine wp_seq (wp_mono (eL x _ _ fr H h a w ha hw) ?_)
    rintro e a' w' ⟨fr',H',cf,cz,ho,hq⟩
    cases e with
    |normal=>exact ih _ _ fr' H' hq ds hd a' w' cf cz
    |ret=>exact gL (e:=.ret) hd cf cz hq
    |exit id=>exact hq.elim
    |goto l=>exact hq.elim
    |panic ch=>exact hq.elim
    |outgrown=>exact hq.elim
   ·cases hno:xZ x hn.I<;>simp only[hno,cond_true,cond_false]at h
    have h':=h (fun vs H'=>∀gs,pR P g n (wB P g fn R) y hn.b dl (mix hn.L vs hn.I fr gs) H') (kU.intro (fun vs H' hh=>hh) _)
    refine wp_seq (wp_mono (eL x _ _ fr H h' a w ha hw) ?_)
    rintro e a' w' ⟨fr',H',cf,cz,ho,hq⟩
    cases e with
    |normal=>
     obtain⟨Hj,kf,hq⟩:=hq
     have Dl:=hq fr'
     rw[jS fun s hs=>ho rfl s (jP hno s hs)]at Dl
     exact ih _ _ fr' Hj Dl ds hd a' w' cf (kf _ _ cz)
    |ret=>exact gL (e:=.ret) hd cf cz hq
    |exit id=>exact hq.elim
    |goto l=>exact hq.elim
    |panic ch=>exact hq.elim
    |outgrown=>exact hq.elim
 |_=>intro hn dl fr H h;exact plain _ hn dl fr H h
theorem vK{args:List Value}{m:Nat}(hle:args.length≤m):aZ [] m {tmps:=args.toArray++Array.replicate (m-args.toArray.size) undef,defers:=[]} (dO args 0):=by
 refine⟨rfl,by simp;omega,fun s=>?_⟩
 rw[fe,Array.getD_eq_getD_getElem?,Array.getElem?_append]
 simp only[List.size_toArray,Nat.not_lt_zero,if_false,Nat.sub_zero]
 by_cases hs:s<args.length
 ·simp[hs,List.getD]
 ·rw[if_neg hs,Array.getElem?_replicate]
  have:args.getD s undef=undef:=by simp[List.getD,List.getElem?_eq_none (Nat.le_of_not_lt hs)]
  rw[this]
  split<;>rfl
theorem oB{f:FuncId}{fn:Func}{hn:Hn}{args:List Value}{H:Hp}{R:Ending→Hp→Prop}(hf:P.funcs[f]? =some fn)(h:wE P g fn hn args H R):aV P g f args.toArray H R:=by
 intro w hw
 unfold wE at h
 split at h<;>try exact h.elim
 rename_i c hc
 cases hl:Nat.ble args.length fn.ntmps<;>simp only[hl,cond_true,cond_false]at h
 exact calls_of_wp_defers hf hc (pQ c hn [] _ H h [] .nil _ w (vK (Nat.le_of_ble_eq_true hl)) hw)
theorem oA{f:FuncId}{fn:Func}{hn:Hn}{args:List Value}{H:Hp}{R:Ending→Hp→Prop}(hf:P.funcs[f]? =some fn)(h:pT P g fn hn args H R):jG P g f args.toArray H R:=by
 intro w hw u
 unfold pT at h
 split at h<;>try exact h.elim
 rename_i c hc
 cases hl:Nat.ble args.length fn.ntmps<;>simp only[hl,cond_true,cond_false]at h
 refine callsD_of_wp hf hc (wp_mono (eL c hn _ _ H h _ w (vK (Nat.le_of_ble_eq_true hl)) hw) ?_)
 rintro e a' w' ⟨fr',H',cf,cz,_,hq⟩
 cases e with
 |normal=>obtain⟨vs,hr,hk⟩:=dg cf cz hq;exact⟨cf.defers,_,hr,H',cz,hk⟩
 |ret=>obtain⟨vs,hr,hk⟩:=dg cf cz hq;exact⟨cf.defers,_,hr,H',cz,hk⟩
 |panic ch=>exact⟨cf.defers,H',cz,hq⟩
 |exit id=>exact hq.elim
 |goto l=>exact hq.elim
 |outgrown=>exact hq.elim
abbrev Jt:=List Value→Hp→Prop
abbrev Mt:=List Value→Hp→Nat
abbrev Rt:=Ending→Hp→Prop
abbrev Hn.n(a b:Hn):Hn:=.h 0 [] [] a b
theorem z7{f:FuncId}{fn:Func}{hn:Hn}{args:List Value}{H:Hp}{R:Rt}{L:Prop}(hf:P.funcs[f]? =some fn)(h:L)(e:pT P g fn hn args H R=L):aV P g f args.toArray H R:=pS hf (e.mpr h)
theorem z6{f:FuncId}{fn:Func}{hn:Hn}{args:List Value}{H:Hp}{R:Rt}{L:Prop}(hf:P.funcs[f]? =some fn)(h:L)(e:wE P g fn hn args H R=L):aV P g f args.toArray H R:=oB hf (e.mpr h)
theorem z8{f:FuncId}{fn:Func}{hn:Hn}{args:List Value}{H:Hp}{R:Rt}{L:Prop}(hf:P.funcs[f]? =some fn)(h:L)(e:pT P g fn hn args H R=L):jG P g f args.toArray H R:=oA hf (e.mpr h)
end
end Go.Sx
set_option maxRecDepth 100000
namespace Go.Proofs
open Go Go.Sx
variable {g:Gh} {a0 a1 a2 a3 a4 a5 a6 a7 a8 a9 AQ AP CY CX CW CV:Value} {H:Hp} {R:Rt}
abbrev pt(b:Nat):Value:=.pointer (some ⟨b,0,none⟩)
abbrev CF:=aa Tryz.prog
abbrev iv(n:Int):Value:=.int .i64 n
abbrev ui(n:Int):Value:=.int .u32 n
abbrev wi(n:Int):Value:=.int .u64 n
abbrev bi(n:Int):Value:=.int .u8 n
abbrev vT:Value:=.bool true
abbrev vF:Value:=.bool false
abbrev lE:=ae .num .eql
abbrev lN:=ae .num .neq
abbrev lL:=ae .num .lss
abbrev lG:=ae .num .gtr
abbrev lA:=ae .num .add
abbrev lS:=ae .num .sub
abbrev lD(n:Nat)(p:Value)(H:Hp)(k:Value→Prop):Prop:=aj n p fun v=>Ld H v k
abbrev lM(n:Nat)(p:Value)(H:Hp)(k:Value→Prop):Prop:=Nil p fun q=>aj n q fun v=>Ld H v k
abbrev lI(e:Nat)(p i:Value)(H:Hp)(k:Value→Prop):Prop:=ah e p i fun v=>Ld H v k
abbrev lX(v:Value)(k:Value→Value→Prop):Prop:=Ext 0 v fun x=>Ext 1 v fun y=>k x y
abbrev rt(R:Rt)(v:Value)(H:Hp):Prop:=R (.returned v) H
abbrev tP(a b:Value):Value:=.tuple #[a,b]
abbrev lW(H:Hp)(c:Array Value)(t:Nat)(k:Nat→Hp→Prop):Prop:=dR H (.cells c t (0,0)) k
abbrev lO(a:Value)(i:Bool→Prop)(k:Bool→Prop):Prop:=cW a false i (fun t=>vT=Value.bool t) fun t=>∀_:Fr,k t
abbrev lU(a:Value)(i:Bool→Prop)(k:Bool→Prop):Prop:=cW a true i (fun t=>vF=Value.bool t) fun t=>∀_:Fr,k t
abbrev lV(H:Hp)(v:Value)(t:Bool):Prop:=H=H∧v=Value.bool t
abbrev lC(n:Nat)(p:Value)(k:Value→Prop):Prop:=Nil p fun q=>aj n q k
abbrev lQ(n:Nat)(H:Hp)(c:Array Value)(t:Nat)(v:Value)(k:Nat→Hp→Prop):Prop:=dR H (.cells c t (0,0)) fun b H=>St n H (pt b) v fun H=>k b H
abbrev sc:=aV Tryz.prog
theorem sd{g:Gh}{f:FuncId}{fn:Func}(hn:Hn){args:List Value}{H:Hp}{R:Rt}{L:Prop}(hf:Tryz.prog.funcs[f]? =some fn)(h:L)(e:pT Tryz.prog g fn hn args H R=L:=by kernel_rfl):sc g f args.toArray H R:=z7 hf h e
abbrev Y0:=Gh→Hp→Rt→Prop
abbrev Y1:=Gh→Value→Hp→Rt→Prop
abbrev Y2:=Gh→Value→Value→Hp→Rt→Prop
abbrev Y3:=Gh→Value→Value→Value→Hp→Rt→Prop
abbrev Y4:=Gh→Value→Value→Value→Value→Hp→Rt→Prop
abbrev Y5:=Gh→Value→Value→Value→Value→Value→Hp→Rt→Prop
abbrev CR(R:Rt)(g:Gh)(f:Nat)(a:Array Value)(H:Hp)(K:Value→Hp→Prop):Prop:=aa Tryz.prog g f a H K (kL R)
abbrev CN(g:Gh)(f:Nat)(a:Array Value)(H:Hp)(K:Value→Hp→Prop):Prop:=aa Tryz.prog g f a H K tW
def hr(m:Nat)(T:List Nat):Nat→Nat→Hn→Hn
 |_,0,x=>x
 |i,k+1,x=>.h m [i] T (hr m T (i+1) k x) .e
def hN:Nat→Hn→Hn
 |0,x=>x
 |k+1,x=>.n .e (hN k x)
def L9:Y2:=
fun a b c d e=>
dR d (.cells (Value.cells b) 23 (0,0)) fun b d=>
dR d (.cells (Value.cells c) 35 (0,0)) fun c d=>
CR e a 13 #[] d fun d f=>
Un .not d fun d=>
Br d (
rt e vF f) (
∀d:Jt,(∀g:Value,∀h:Hp,(∀_:Fr,
Br g (
rt e vF h) (
aB 5 h (pt b) fun i=>
CR e a 14 #[i] h fun i j=>
lX i fun i k=>
aB 5 j (pt b) fun l=>
CR e a 15 #[l,(.slice none 0 0)] j fun j l=>
lX j fun j m=>
aB 5 l (pt b) fun n=>
CR e a 28 #[n] l fun l n=>
lN k l fun l=>
lO l (fun l=>
lN m k fun m=>
(lV n m l)) fun l=>
lO (Value.bool l) (fun l=>
bM j fun j=>
lN j (iv 0) fun j=>
(lV n j l)) fun l=>
Br (Value.bool l) (
rt e vF n) (
lN k (iv 0) fun j=>
Br j (
ae .ptr .eql i (.pointer none) fun j=>
rt e j n) (
lD 0 (pt b) n fun b=>
CR e a 29 #[b] n fun b j=>
lX b fun b _=>
∀k:Jt,(∀l:Value,∀m:Hp,(∀_:Fr,
rt e l m)→k [l] m)→
CR e a 20 #[i] j fun j l=>
bM j fun j=>
lE j (iv 0) fun j=>
Split j true (
CR e a 27 #[i] l fun i j=>
CR e a 25 #[i,b] j fun b i=>
ax vT b vF fun b=>
JE k [b] i) (
ax vF undef vF fun b=>
JE k [b] l)))))→d [g] h)→
aB 5 f (pt c) fun b=>
CR e a 16 #[(.pointer none),b] f fun b c=>
Build Tryz.prog 37 [(0,(iv 10)),(1,(iv (-1)))] fun f=>
dn Tryz.prog a (nO Tryz.f9 4 4) (ev (fun g=>cond (Nat.beq g 16) b (cond (Nat.beq g 17) f (undef)))) c fun b=>
Split b false (
CR e a 20 #[(.pointer none)] c fun b f=>
bM b fun b=>
lN b (iv 0) fun b=>
ax vF vT b fun b=>
Split b false (
CR e a 27 #[(.pointer none)] f fun a b=>
bM a fun a=>
lN a (iv 0) fun a=>
ax vF vT a fun a=>
JE d [a] b) (
ax vT vT undef fun a=>
JE d [a] f)) (
ax vT vT undef fun a=>
ax a vT undef fun a=>
JE d [a] c))
theorem xd(h:L9 g a0 a1 H R):sc g 9 #[a0,a1] H R:=
  sd (hN 3 (.n (.h 1 [30] [2] .e .e) (.n .e (.n .e (.n (.n (.h 0 [] [1] .e .e) .e) (.n .e (.n .e (.h 1 [4] [] .e .e)))))))) Tryz.func9 h
def L13:Y0:=
fun a b c=>
CR c a 18 #[(iv 2)] b fun b d=>
Build Tryz.prog 35 [(0,(bi 1))] fun e=>
Build Tryz.prog 35 [(0,(bi 1)),(1,(iv 1))] fun f=>
Build Tryz.prog 35 [(0,(bi 4)),(1,(iv 0)),(2,(iv 1))] fun g=>
Build Tryz.prog 35 [(0,(bi 16)),(1,(iv 2))] fun h=>
Build Tryz.prog 35 [(0,(bi 14)),(1,(iv 2)),(4,(wi 3))] fun i=>
Build Tryz.prog 35 [(0,(bi 1)),(1,(iv 2))] fun j=>
an Tryz.prog 24 6 [(0,e),(1,f),(2,g),(3,h),(4,i),(5,j)] d fun d e=>
CR c a 15 #[b,d] e fun b d=>
lX b fun b e=>
Build Tryz.prog 37 [(1,(iv 0)),(3,(iv 1))] fun f=>
Build Tryz.prog 37 [(1,(iv 1)),(3,(iv 1))] fun g=>
Build Tryz.prog 37 [(1,(iv 2)),(3,(iv 1))] fun h=>
Build Tryz.prog 37 [(1,(iv (-1))),(2,(wi 1))] fun i=>
Build Tryz.prog 37 [(1,(iv (-1))),(2,(wi 1))] fun j=>
Build Tryz.prog 37 [(0,(iv 2)),(1,(iv (-1)))] fun k=>
an Tryz.prog 30 6 [(0,f),(1,g),(2,h),(3,i),(4,j),(5,k)] d fun d f=>
∀g:Jt,(∀h:Value,∀i:Hp,(∀_:Fr,
rt c h i)→g [h] i)→
lE e (iv 0) fun e=>
Split e true (
CR c a 17 #[b,d] f fun a b=>
ax vT a vF fun a=>
JE g [a] b) (
ax vF undef vF fun a=>
JE g [a] f)
theorem uF(h:L13 g H R):sc g 13 #[] H R:=
  sd (hN 3 (.h 1 [0] [] .e .e)) Tryz.func13 h
def L14:Y1:=
fun a b c d=>
dR c (.cells (Value.cells b) 23 (0,0)) fun b c=>
∀e:Jt,(∀f:Value,∀g:Hp,(∀_:Fr,
Br f (
rt d (tP (.pointer none) (iv 1)) g) (
lD 0 (pt b) g fun h=>
lD 1 (pt b) g fun i=>
CR d a 40 #[h,i] g fun a h=>
lX a fun a i=>
lN i (iv 0) fun j=>
Br j (
rt d (tP (.pointer none) i) h) (
lD 2 (pt b) h fun i=>
lE i (bi 6) fun i=>
lU i (fun i=>
lD 0 (pt b) h fun j=>
lG j (iv 12) fun j=>
(lV h j i)) fun i=>
Br (Value.bool i) (
rt d (tP (.pointer none) (iv 6)) h) (
aB 5 h (pt b) fun i=>
kM h fun h j=>
Build Tryz.prog 90 [(0,i),(1,a),(2,h)] fun a=>
dR j (.cells (Value.cells a) 90 (0,0)) fun a h=>
rt d (tP (pt a) (iv 0)) h))))→e [f] g)→
lD 2 (pt b) c fun a=>
lG a (bi 6) fun a=>
Br a (
JE e [a] c) (
lD 3 (pt b) c fun a=>
lL a (iv 100) fun a=>
Br a (
JE e [a] c) (
lD 3 (pt b) c fun a=>
lG a (iv 1000) fun a=>
Br a (
JE e [a] c) (
lD 4 (pt b) c fun a=>
lL a (iv 0) fun a=>
Br a (
JE e [a] c) (
lD 4 (pt b) c fun a=>
lG a (iv 16) fun a=>
JE e [a] c))))
theorem uE(h:L14 g a0 H R):sc g 14 #[a0] H R:=
  sd (.n .e (.n (.n (.h 1 [6] [1] .e .e) .e) (.n .e (.n .e (.n (.n (.h 0 [] [1] .e .e) .e) .e))))) Tryz.func14 h
def L15:Y2:=
fun a b c d e=>
dR d (.cells (Value.cells b) 23 (0,0)) fun b d=>
aB 5 d (pt b) fun b=>
CR e a 14 #[b] d fun b d=>
lX b fun b f=>
lN f (iv 0) fun g=>
Br g (
rt e (tP (.slice none 0 0) f) d) (
bM c fun f=>
∃(g:Jt) (h:Mt),JE g [(.slice none 0 0),(iv 0)] d∧∀d i:Value,∀j:Hp,g [d,i] j→∀_:Fr,
lL i f fun f=>
Br f (
ah 5 c i fun c=>
aB 5 j c fun c=>
lQ 5 j #[(bi 0),(iv 0),(iv 0),(iv 0),(wi 0)] 35 c fun c f=>
aB 5 f (pt c) fun c=>
CR e a 16 #[b,c] f fun a b=>
an Tryz.prog 30 1 [(0,a)] b fun a b=>
App Tryz.prog 37 4 32 (.agg #[(iv 0),(iv 0),(wi 0),(iv 0)]) b d a fun a b=>
lA i (iv 1) fun c=>
av g h [a,c] b [d,i] j) (
rt e (tP d (iv 0)) j))
theorem uD(h:L15 g a0 a1 H R):sc g 15 #[a0,a1] H R:=
  sd (hN 4 (.n (.n .e (.n (.h 0 [8,21] [6,19,20] .e .e) .e)) .e)) Tryz.func15 h
def L16:Y2:=
fun a b c d e=>
dR d (.cells (Value.cells c) 35 (0,0)) fun c d=>
lW d #[(iv 0),(iv 0),(wi 0),(iv 0)] 37 fun d f=>
ae .ptr .eql b (.pointer none) fun g=>
Br g (
CR e a 41 #[(iv 10)] f fun g h=>
St 4 h (pt d) g fun g=>
aB 4 g (pt d) fun h=>
rt e h g) (
DR f fun g=>
lD 0 (pt c) g fun h=>
∀i:Hp,
CN (a.add i) 42 #[] f fun f i=>
aS i g∧
GS i g fun g=>
fU (.int .u8) (.agg #[(bi 0),.nilFunc]) true g f h fun f=>
lX f fun f h=>
lW i #[(bi 0),.nilFunc] 95 fun i j=>
∀_:Hp,
St 2 j (pt i) f fun f=>
aS f g∧
Br h (
aB 5 f (pt c) fun g=>
aB 2 f (pt i) fun h=>
CR e a 43 #[b,g,h] f fun g h=>
St 4 h (pt d) g fun g=>
aB 4 g (pt d) fun h=>
rt e h g) (
DR f fun g=>
lD 0 (pt c) g fun h=>
∀i:Hp,
CN (a.add i) 44 #[] f fun f i=>
aS i g∧
GS i g fun g=>
fU (.int .u8) .nilFunc true g f h fun f=>
lX f fun f g=>
Br g (
aB 5 i (pt c) fun c=>
bj Tryz.prog a f #[b,c] i (fun b c=>
St 4 c (pt d) b fun b=>
aB 4 b (pt d) fun c=>
rt e c b) (kL e)) (
CR e a 41 #[(iv 12)] i fun a b=>
St 4 b (pt d) a fun a=>
aB 4 a (pt d) fun b=>
rt e b a)))
theorem mD(h:L16 g a0 a1 H R):sc g 16 #[a0,a1] H R:=
  sd (.n .e (.n .e (.n (.n (.h 1 [] [] (hr 0 [1] 1 2 (.h 1 [7] [1] (.h 0 [0] [1] (.h 4 [] [] (hr 0 [1] 3 7 .e) .e) .e) .e)) .e) .e) (.n (.n (.h 1 [] [] (hr 0 [1] 1 2 (.h 0 [0] [1] (.h 4 [] [] (hr 0 [1] 3 6 .e) .e) .e)) .e) .e) .e)))) Tryz.func16 h
def L17:Y2:=
fun a b c d e=>
bM b fun f=>
bM c fun g=>
lN f g fun f=>
Br f (
rt e vF d) (
∃(f:Jt) (g:Mt),JE f [(iv 0)] d∧∀d:Value,∀h:Hp,f [d] h→∀_:Fr,
bM b fun i=>
lL d i fun i=>
Br i (
ah 4 b d fun b=>
aB 4 h b fun b=>
ah 4 c d fun c=>
aB 4 h c fun c=>
dn Tryz.prog a (nO Tryz.f17 6 8) (ev (fun a=>cond (Nat.beq a 20) b (cond (Nat.beq a 24) c (undef)))) h fun a=>
Br a (
rt e vF h) (
lA d (iv 1) fun a=>
av f g [a] h [d] h)) (
rt e vT h))
theorem uC(h:L17 g a0 a1 H R):sc g 17 #[a0,a1] H R:=
  sd (.n .e (.n .e (.n (.n .e (.n (.h 0 [5] [0,1] .e .e) .e)) .e))) Tryz.func17 h
def L18:Y1:=
fun _ a b c=>
lW b #[(iv 0),(iv 0),(bi 0),(iv 0),(iv 0)] 23 fun b d=>
Build Tryz.prog 23 [(0,a),(1,(iv 1048576)),(2,(bi 0)),(3,(iv 100))] fun a=>
St 5 d (pt b) a fun a=>
aB 5 a (pt b) fun b=>
rt c b a
theorem uB(h:L18 g a0 H R):sc g 18 #[a0] H R:=
  sd .e Tryz.func18 h
def L20:Y1:=
fun a b c d=>
ae .ptr .eql b (.pointer none) fun e=>
Br e (
rt d (.slice none 0 0) c) (
lM 6 b c fun b=>
CR d a 47 #[b] c fun b c=>
CR d a 46 #[b] c fun a b=>
rt d a b)
theorem mC(h:L20 g a0 H R):sc g 20 #[a0] H R:=
  sd .e Tryz.func20 h
def L25:Y2:=
fun _ a b c d=>
bM a fun e=>
bM b fun f=>
lN e f fun e=>
Br e (
rt d vF c) (
∃(e:Jt) (f:Mt),JE e [(iv 0)] c∧∀c:Value,∀g:Hp,e [c] g→∀_:Fr,
bM a fun h=>
lL c h fun h=>
Br h (
lI 1 a c g fun a=>
lI 1 b c g fun b=>
lN a b fun a=>
Br a (
rt d vF g) (
lA c (iv 1) fun a=>
av e f [a] g [c] g)) (
rt d vT g))
theorem uA(h:L25 g a0 a1 H R):sc g 25 #[a0,a1] H R:=
  sd (.n .e (.n .e (.n (.n .e (.n (.h 0 [5] [0,1] .e .e) .e)) .e))) Tryz.func25 h
def L27:Y1:=
fun a b c d=>
ae .ptr .eql b (.pointer none) fun e=>
Br e (
rt d (.slice none 0 0) c) (
lM 5 b c fun b=>
CR d a 65 #[b] c fun a b=>
rt d a b)
theorem mB(h:L27 g a0 H R):sc g 27 #[a0] H R:=
  sd .e Tryz.func27 h
variable {g:Gh} {a0 a1 a2 a3 a4 a5 a6 a7 a8 a9 AQ AP CY CX CW CV:Value} {H:Hp} {R:Rt}
def L28:Y1:=
fun a b c d=>
dR c (.cells (Value.cells b) 23 (0,0)) fun b c=>
lD 0 (pt b) c fun e=>
lD 1 (pt b) c fun f=>
CR d a 66 #[e,f] c fun a c=>
lN a (iv 0) fun a=>
lO a (fun a=>
lD 2 (pt b) c fun e=>
lG e (bi 6) fun e=>
(lV c e a)) fun a=>
lO (Value.bool a) (fun a=>
lD 3 (pt b) c fun e=>
lL e (iv 100) fun e=>
(lV c e a)) fun a=>
lO (Value.bool a) (fun a=>
lD 3 (pt b) c fun e=>
lG e (iv 1000) fun e=>
(lV c e a)) fun a=>
lO (Value.bool a) (fun a=>
lD 4 (pt b) c fun e=>
lL e (iv 0) fun e=>
(lV c e a)) fun a=>
lO (Value.bool a) (fun a=>
lD 4 (pt b) c fun e=>
lG e (iv 16) fun e=>
(lV c e a)) fun a=>
Br (Value.bool a) (
rt d (iv 1) c) (
lD 2 (pt b) c fun a=>
lE a (bi 6) fun a=>
lU a (fun a=>
lD 0 (pt b) c fun b=>
lG b (iv 12) fun b=>
(lV c b a)) fun a=>
Br (Value.bool a) (
rt d (iv 6) c) (
rt d (iv 0) c))
theorem uz(h:L28 g a0 H R):sc g 28 #[a0] H R:=
  sd (.n .e (.n (.n (.n (.h 0 [] [1] .e .e) (.n .e (.n (.h 0 [] [1] .e .e) .e))) .e) .e)) Tryz.func28 h
def L29:Y1:=
fun _ a b c=>
lL a (iv 0) fun d=>
lO d (fun d=>
lG a (iv 64) fun e=>
(lV b e d)) fun d=>
Br (Value.bool d) (
rt c (tP (.slice none 0 0) (iv 1)) b) (
∃(d:Jt) (e:Mt),JE d [(.slice none 0 0),(iv 0)] b∧∀b f:Value,∀g:Hp,d [b,f] g→∀_:Fr,
lL f a fun a=>
Br a (
an Tryz.prog 43 1 [(0,f)] g fun a h=>
App Tryz.prog 3 1 8 (iv 0) h b a fun a h=>
lA f (iv 1) fun i=>
av d e [a,i] h [b,f] g) (
rt c (tP b (iv 0)) g))
theorem uy(h:L29 g a0 H R):sc g 29 #[a0] H R:=
  sd (.n .e (.n (.n (.h 0 [] [1] .e .e) .e) (.n .e (.n (.n .e (.n (.h 0 [4,5] [0] .e .e) .e)) .e)))) Tryz.func29 h
def L40:Y2:=
fun a b c d e=>
CR e a 68 #[b] d fun d f=>
lX d fun d g=>
lN g (iv 0) fun g=>
lO g (fun g=>
lL b (iv 1) fun h=>
(lV f h g)) fun g=>
lO (Value.bool g) (fun g=>
lL c (iv 2) fun h=>
(lV f h g)) fun g=>
lO (Value.bool g) (fun g=>
lG c (iv 1048576) fun h=>
(lV f h g)) fun g=>
Br (Value.bool g) (
rt e (tP (.pointer none) (iv 1)) f) (
CR e a 69 #[b] f fun f g=>
lX f fun f h=>
lN h (iv 0) fun i=>
Br i (
rt e (tP (.pointer none) h) g) (
CR e a 70 #[c,f] g fun c f=>
lX c fun c g=>
lQ 4 f #[(.pointer none),(.pointer none),(.slice none 0 0),(.slice none 0 0)] 137 c fun c f=>
lN g (iv 0) fun h=>
Br h (
rt e (tP (.pointer none) g) f) (
DR f fun g=>
aB 4 g (pt c) fun c=>
CN a 71 #[d] f fun a f=>
aS f g∧
Build Tryz.prog 141 [(0,c),(1,b),(2,d),(3,a)] fun a=>
dR f (.cells (Value.cells a) 141 (0,0)) fun a b=>
aS b g∧
rt e (tP (pt a) (iv 0)) b)))
theorem mA(h:L40 g a0 a1 H R):sc g 40 #[a0,a1] H R:=
  sd (.n .e (.n .e (.n (.n (.h 0 [] [1] .e .e) .e) (hN 4 (.n (.h 0 [0,1,2,3,4,5,6,7,8] [] .e .e) .e))))) Tryz.func40 h
def L41:Y1:=
fun _ a b c=>
lW b #[(iv 0),(iv 0),(wi 0),(iv 0)] 37 fun b d=>
Build Tryz.prog 37 [(0,a),(1,(iv (-1)))] fun a=>
St 4 d (pt b) a fun a=>
aB 4 a (pt b) fun b=>
rt c b a
theorem ux(h:L41 g a0 H R):sc g 41 #[a0] H R:=
  sd .e Tryz.func41 h
def L42:Y0:=
fun _ a b=>
kM a fun a c=>
Build Tryz.prog 95 [(0,(bi 8)),(1,(.func (.func 72) #[] #[]))] fun d=>
aN (.int .u8) c a (bi 1) d fun c=>
Build Tryz.prog 95 [(0,(bi 32)),(1,(.func (.func 73) #[] #[]))] fun d=>
aN (.int .u8) c a (bi 2) d fun c=>
Build Tryz.prog 95 [(0,(bi 1)),(1,(.func (.func 74) #[] #[]))] fun d=>
aN (.int .u8) c a (bi 3) d fun c=>
Build Tryz.prog 95 [(0,(bi 3)),(1,(.func (.func 75) #[] #[]))] fun d=>
aN (.int .u8) c a (bi 4) d fun c=>
Build Tryz.prog 95 [(0,(bi 3)),(1,(.func (.func 76) #[] #[]))] fun d=>
aN (.int .u8) c a (bi 5) d fun c=>
Build Tryz.prog 95 [(0,(bi 3)),(1,(.func (.func 77) #[] #[]))] fun d=>
aN (.int .u8) c a (bi 6) d fun c=>
Build Tryz.prog 95 [(0,(bi 7)),(1,(.func (.func 78) #[] #[]))] fun d=>
aN (.int .u8) c a (bi 7) d fun c=>
Build Tryz.prog 95 [(0,(bi 81)),(1,(.func (.func 79) #[] #[]))] fun d=>
aN (.int .u8) c a (bi 8) d fun c=>
Build Tryz.prog 95 [(0,(bi 129)),(1,(.func (.func 80) #[] #[]))] fun d=>
aN (.int .u8) c a (bi 9) d fun c=>
Build Tryz.prog 95 [(0,(bi 129)),(1,(.func (.func 81) #[] #[]))] fun d=>
aN (.int .u8) c a (bi 10) d fun c=>
Build Tryz.prog 95 [(0,(bi 21)),(1,(.func (.func 82) #[] #[]))] fun d=>
aN (.int .u8) c a (bi 11) d fun c=>
rt b a c
theorem uw(h:L42 g H R):sc g 42 #[] H R:=
  sd .e Tryz.func42 h
def L43:Y3:=
fun a b c d e f=>
dR e (.cells (Value.cells c) 35 (0,0)) fun c e=>
dR e (.cells (Value.cells d) 95 (0,0)) fun d e=>
lW e #[(iv 0),(iv 0),(wi 0),(iv 0)] 37 fun e g=>
aB 5 g (pt c) fun h=>
lD 0 (pt d) g fun i=>
CR f a 83 #[b,h,i] g fun g h=>
lN g (iv 0) fun i=>
Br i (
CR f a 41 #[g] h fun g i=>
St 4 i (pt e) g fun g=>
aB 4 g (pt e) fun i=>
rt f i g) (
∃(g:Jt) (i:Mt),JE g [(iv 1)] h∧∀h:Value,∀j:Hp,g [h] j→∀_:Fr,
lD 1 (pt d) j fun d=>
aB 5 j (pt c) fun c=>
bj Tryz.prog a d #[b,c] j (fun c d=>
lX c fun c k=>
lE k (iv 0) fun l=>
Br l (
CR f a 84 #[b,c,h] d fun c l=>
St 4 l (pt e) c fun c=>
aB 4 c (pt e) fun l=>
rt f l c) (
lN k (iv 9) fun c=>
lO c (fun c=>
lC 0 b fun l=>
aj 4 l fun l=>
Ld d l fun l=>
lG h l fun l=>
(lV d l c)) fun c=>
Br (Value.bool c) (
CR f a 41 #[k] d fun c k=>
lQ 4 k #[(iv 0),(iv 0),(wi 0),(iv 0)] 37 c fun c k=>
aj 3 (pt c) fun l=>
St 1 k l h fun k=>
aB 4 k (pt c) fun c=>
St 4 k (pt e) c fun c=>
aB 4 c (pt e) fun e=>
rt f e c) (
DR d fun c=>
lM 5 b c fun e=>
lC 0 b fun k=>
aj 2 k fun k=>
Ld c k fun k=>
lC 0 b fun b=>
aj 3 b fun b=>
Ld c b fun b=>
∀c:Hp,
CN (a.add c) 85 #[e,k,b] d fun _ a=>
lA h (iv 1) fun b=>
av g i [b] a [h] j))) (kL f))
theorem mz(h:L43 g a0 a1 a2 H R):sc g 43 #[a0,a1,a2] H R:=
  sd (hN 3 (.n (.h 0 [8] [0,4,5,6] (.n (.n (.n .e (.n (.n (.n .e (.n .e (.n (.h 0 [] [1] .e .e) .e))) .e) (.h 1 [] [] (hr 0 [1] 0 15 .e) .e))) .e) .e) .e) .e)) Tryz.func43 h
def L44:Y0:=
fun _ a b=>
kM a fun a c=>
aN (.int .u8) c a (bi 12) (.func (.func 86) #[] #[]) fun c=>
aN (.int .u8) c a (bi 13) (.func (.func 87) #[] #[]) fun c=>
aN (.int .u8) c a (bi 14) (.func (.func 88) #[] #[]) fun c=>
aN (.int .u8) c a (bi 15) (.func (.func 89) #[] #[]) fun c=>
aN (.int .u8) c a (bi 16) (.func (.func 90) #[] #[]) fun c=>
aN (.int .u8) c a (bi 17) (.func (.func 91) #[] #[]) fun c=>
aN (.int .u8) c a (bi 18) (.func (.func 92) #[] #[]) fun c=>
aN (.int .u8) c a (bi 19) (.func (.func 93) #[] #[]) fun c=>
aN (.int .u8) c a (bi 20) (.func (.func 94) #[] #[]) fun c=>
aN (.int .u8) c a (bi 21) (.func (.func 95) #[] #[]) fun c=>
aN (.int .u8) c a (bi 22) (.func (.func 96) #[] #[]) fun c=>
aN (.int .u8) c a (bi 23) (.func (.func 97) #[] #[]) fun c=>
rt b a c
theorem uv(h:L44 g H R):sc g 44 #[] H R:=
  sd .e Tryz.func44 h
def L46:Y1:=
fun a b c d=>
CR d a 98 #[b] c fun b c=>
CR d a 99 #[b] c fun _ a=>
rt d b a
theorem uu(h:L46 g a0 H R):sc g 46 #[a0] H R:=
  sd .e Tryz.func46 h
def L47:Y1:=
fun _ a b c=>
dR b (.cells (Value.cells a) 88 (0,0)) fun a b=>
c (.returned (.func (.func 100) #[] #[(pt a)])) b
theorem ur(h:L47 g a0 H R):sc g 47 #[a0] H R:=
  sd .e Tryz.func47 h
def L65:Y1:=
fun a b c d=>
ae .ptr .eql b (.pointer none) fun e=>
Br e (
rt d (.slice none 0 0) c) (
lM 5 b c fun b=>
CR d a 71 #[b] c fun a b=>
rt d a b)
theorem uo(h:L65 g a0 H R):sc g 65 #[a0] H R:=
  sd .e Tryz.func65 h
def L66:Y2:=
fun _ a b c d=>
lL a (iv 1) fun e=>
lO e (fun e=>
lG a (iv 64) fun a=>
(lV c a e)) fun e=>
lO (Value.bool e) (fun a=>
lL b (iv 2) fun e=>
(lV c e a)) fun a=>
lO (Value.bool a) (fun a=>
lG b (iv 1048576) fun b=>
(lV c b a)) fun a=>
Br (Value.bool a) (
rt d (iv 1) c) (
rt d (iv 0) c)
theorem um(h:L66 g a0 a1 H R):sc g 66 #[a0,a1] H R:=
  sd (.n .e (.n (.n (.h 0 [] [1] .e .e) .e) .e)) Tryz.func66 h
def L68:Y1:=
fun a b c d=>
lL b (iv 0) fun e=>
lO e (fun e=>
lG b (iv 64) fun f=>
(lV c f e)) fun e=>
Br (Value.bool e) (
rt d (tP (.slice none 0 0) (iv 1)) c) (
CR d a 118 #[b] c fun a b=>
rt d (tP a (iv 0)) b)
theorem my(h:L68 g a0 H R):sc g 68 #[a0] H R:=
  sd (.n .e (.n (.n (.h 0 [] [1] .e .e) .e) .e)) Tryz.func68 h
def L69:Y1:=
fun _ a b c=>
lL a (iv 1) fun d=>
lO d (fun d=>
lG a (iv 64) fun e=>
(lV b e d)) fun d=>
Br (Value.bool d) (
rt c (tP (.pointer none) (iv 1)) b) (
da 167 1 8 (.map none) b a a fun b d=>
Build Tryz.prog 166 [(0,b)] fun b=>
dR d (.cells (Value.cells b) 166 (0,0)) fun b d=>
∃(e:Jt) (f:Mt),JE e [(iv 0)] d∧∀d:Value,∀g:Hp,e [d] g→∀_:Fr,
lL d a fun a=>
Br a (
lM 0 (pt b) g fun a=>
kM g fun h i=>
ah 1 a d fun a=>
St 1 i a h fun a=>
lA d (iv 1) fun h=>
av e f [h] a [d] g) (
rt c (tP (pt b) (iv 0)) g))
theorem uk(h:L69 g a0 H R):sc g 69 #[a0] H R:=
  sd (.n .e (.n (.n (.h 0 [] [1] .e .e) .e) (.n .e (.n (.n .e (.n (.h 0 [17] [4,16] .e .e) .e)) .e)))) Tryz.func69 h
def L70:Y2:=
fun a b c d e=>
lW d #[(.pointer none),(.pointer none),(.slice none 0 0),(.slice none 0 0)] 137 fun d f=>
CR e a 119 #[b] f fun a b=>
lX a fun a f=>
Build Tryz.prog 137 [(0,a),(1,c)] fun a=>
St 4 b (pt d) a fun a=>
aB 4 a (pt d) fun b=>
rt e (tP b f) a
theorem uj(h:L70 g a0 a1 H R):sc g 70 #[a0,a1] H R:=
  sd .e Tryz.func70 h
def L71:Y1:=
fun _ a b c=>
ae .slice .eql a (.slice none 0 0) fun d=>
Br d (
rt c (.slice none 0 0) b) (
an Tryz.prog 43 0 [] b fun b d=>
App Tryz.prog 3 1 8 (iv 0) d b a fun a b=>
rt c a b)
theorem uh(h:L71 g a0 H R):sc g 71 #[a0] H R:=
  sd .e Tryz.func71 h
def L72:Y2:=
fun a b c d e=>
dR d (.cells (Value.cells c) 35 (0,0)) fun c d=>
DR d fun f=>
lM 5 b f fun b=>
lD 1 (pt c) f fun c=>
∀g:Hp,
CN (a.add g) 120 #[b,c] d fun a b=>
aS b f∧
lX a fun a c=>
rt e (tP a c) b
theorem ug(h:L72 g a0 a1 H R):sc g 72 #[a0,a1] H R:=
  sd (.n .e (.n (.h 1 [] [] (hr 0 [1] 0 11 .e) .e) .e)) Tryz.func72 h
def L75:Y2:=
fun a b c d e=>
dR d (.cells (Value.cells c) 35 (0,0)) fun c d=>
DR d fun f=>
lM 5 b f fun g=>
lM 6 b f fun h=>
lD 1 (pt c) f fun i=>
fU (.int .i64) (ui 0) false f h i fun h=>
lM 6 b f fun b=>
lD 2 (pt c) f fun c=>
fU (.int .i64) (ui 0) false f b c fun b=>
∀c:Hp,
CN (a.add c) 123 #[g,h,b] d fun a b=>
aS b f∧
lX a fun a c=>
rt e (tP a c) b
theorem uf(h:L75 g a0 a1 H R):sc g 75 #[a0,a1] H R:=
  sd (.n .e (.n (.h 1 [] [] (hr 0 [1] 0 23 .e) .e) .e)) Tryz.func75 h
def L83:Y3:=
fun a b c d e f=>
dR e (.cells (Value.cells c) 35 (0,0)) fun c e=>
∀g:Jt,(∀h:Value,∀i:Hp,(∀_:Fr,
Br h (
rt f (iv 1) i) (
∀j:Jt,(∀k:Value,∀l:Hp,(∀_:Fr,
Br k (
rt f (iv 2) l) (
∀m:Jt,(∀n:Value,∀o:Hp,(∀_:Fr,
Br n (
rt f (iv 3) o) (
rt f (iv 0) o))→m [n] o)→
∀n:Jt,(∀o:Value,∀p:Hp,(∀_:Fr,
Br o (
JE m [o] p) (
∀q:Jt,(∀r:Value,∀s:Hp,(∀_:Fr,
Br r (
JE m [r] s) (
ae .num .and d (bi 4) fun t=>
lN t (bi 0) fun t=>
Split t true (
lD 3 (pt c) s fun t=>
CR f a 133 #[b,t] s fun t u=>
Un .not t fun t=>
ax vT t vF fun t=>
JE m [t] u) (
ax vF undef vF fun t=>
JE m [t] s)))→q [r] s)→
ae .num .and d (bi 2) fun m=>
lN m (bi 0) fun m=>
Split m true (
lD 2 (pt c) p fun m=>
CR f a 133 #[b,m] p fun m r=>
Un .not m fun m=>
ax vT m vF fun m=>
JE q [m] r) (
ax vF undef vF fun m=>
JE q [m] p)))→n [o] p)→
ae .num .and d (bi 1) fun m=>
lN m (bi 0) fun m=>
Split m true (
lD 1 (pt c) l fun m=>
CR f a 133 #[b,m] l fun m o=>
Un .not m fun m=>
ax vT m vF fun m=>
JE n [m] o) (
ax vF undef vF fun m=>
JE n [m] l)))→j [k] l)→
∀k:Jt,(∀l:Value,∀m:Hp,(∀_:Fr,
Br l (
JE j [l] m) (
∀n:Jt,(∀o:Value,∀p:Hp,(∀_:Fr,
Br o (
JE j [o] p) (
ae .num .and d (bi 128) fun q=>
lN q (bi 0) fun q=>
lU q (fun q=>
lD 4 (pt c) p fun r=>
lC 0 b fun s=>
aj 0 s fun s=>
Ld p s fun s=>
ae .num .shr r s fun r=>
lN r (wi 0) fun r=>
(lV p r q)) fun q=>
JE j [(Value.bool q)] p))→n [o] p)→
ae .num .and d (bi 16) fun j=>
lN j (bi 0) fun j=>
Split j true (
lD 2 (pt c) m fun j=>
CR f a 132 #[b,j] m fun j o=>
Un .not j fun j=>
ax vT j vF fun j=>
JE n [j] o) (
ax vF undef vF fun j=>
JE n [j] m)))→k [l] m)→
ae .num .and d (bi 8) fun j=>
lN j (bi 0) fun j=>
Split j true (
lD 1 (pt c) i fun j=>
CR f a 132 #[b,j] i fun b j=>
Un .not b fun b=>
ax vT b vF fun b=>
JE k [b] j) (
ax vF undef vF fun b=>
JE k [b] i)))→g [h] i)→
∀b:Jt,(∀h:Value,∀i:Hp,(∀_:Fr,
Br h (
JE g [h] i) (
ae .num .and d (bi 64) fun j=>
lN j (bi 0) fun j=>
Split j true (
lD 3 (pt c) i fun j=>
bj Tryz.prog a (.func (.func 131) #[] #[]) #[j] i (fun j k=>
Un .not j fun j=>
ax vT j vF fun j=>
JE g [j] k) (kL f)) (
ax vF undef vF fun j=>
JE g [j] i)))→b [h] i)→
ae .num .and d (bi 32) fun d=>
lN d (bi 0) fun d=>
Split d true (
lD 1 (pt c) e fun c=>
bj Tryz.prog a (.func (.func 131) #[] #[]) #[c] e (fun a c=>
Un .not a fun a=>
ax vT a vF fun a=>
JE b [a] c) (kL f)) (
ax vF undef vF fun a=>
JE b [a] e)
theorem ue(h:L83 g a0 a1 a2 H R):sc g 83 #[a0,a1,a2] H R:=
  sd (.n .e (.n .e (.n (.n (.h 1 [8] [0,2,4] (.h 1 [8] [0,2,4,7] .e .e) (.n .e (.h 1 [29] [0,2,4] (.h 1 [29] [0,2,4] .e (.n .e (.h 1 [29] [0,2,4] .e .e))) (.n .e (.h 1 [64] [] (.h 1 [64] [0,2,4] .e (.n .e (.h 1 [64] [0,2,4] .e .e))) .e))))) .e) .e))) Tryz.func83 h
def L84:Y3:=
fun _ a b c d e=>
lW d #[(iv 0),(iv 0),(wi 0),(iv 0)] 37 fun d f=>
lM 7 a f fun g=>
lM 7 a f fun h=>
lA h (iv 1) fun h=>
lC 7 a fun i=>
St 1 f i h fun f=>
lM 6 a f fun a=>
aN (.int .i64) f a g b fun a=>
Build Tryz.prog 37 [(1,g),(3,c)] fun b=>
St 4 a (pt d) b fun a=>
aB 4 a (pt d) fun b=>
rt e b a
theorem ud(h:L84 g a0 a1 a2 H R):sc g 84 #[a0,a1,a2] H R:=
  sd .e Tryz.func84 h
def L88:Y2:=
fun a b c d e=>
dR d (.cells (Value.cells c) 35 (0,0)) fun c d=>
lW d #[(iv 0),(iv 0),(wi 0),(iv 0)] 37 fun d f=>
lD 1 (pt c) f fun g=>
CR e a 133 #[b,g] f fun f g=>
Un .not f fun f=>
Br f (
CR e a 41 #[(iv 3)] g fun f h=>
St 4 h (pt d) f fun f=>
aB 4 f (pt d) fun h=>
rt e h f) (
DR g fun f=>
lM 5 b f fun h=>
lM 6 b f fun b=>
lD 1 (pt c) f fun i=>
fU (.int .i64) (ui 0) false f b i fun b=>
lD 4 (pt c) f fun c=>
∀i:Hp,
CN (a.add i) 144 #[h,b,c] g fun b c=>
aS c f∧
lX b fun b f=>
CR e a 145 #[b] c fun b c=>
CR e a 143 #[b,f] c fun a b=>
St 4 b (pt d) a fun a=>
aB 4 a (pt d) fun b=>
rt e b a)
theorem uc(h:L88 g a0 a1 H R):sc g 88 #[a0,a1] H R:=
  sd (.n .e (.n .e (.n (.h 1 [] [] (hr 0 [1] 0 19 .e) .e) .e))) Tryz.func88 h
def L90:Y2:=
fun a b c d e=>
dR d (.cells (Value.cells c) 35 (0,0)) fun c d=>
lW d #[(iv 0),(iv 0),(wi 0),(iv 0)] 37 fun d f=>
lD 1 (pt c) f fun g=>
CR e a 133 #[b,g] f fun f g=>
Un .not f fun f=>
Br f (
CR e a 41 #[(iv 3)] g fun f h=>
St 4 h (pt d) f fun f=>
aB 4 f (pt d) fun h=>
rt e h f) (
DR g fun f=>
lM 5 b f fun h=>
lM 6 b f fun b=>
lD 1 (pt c) f fun c=>
fU (.int .i64) (ui 0) false f b c fun b=>
∀c:Hp,
CN (a.add c) 146 #[h,b] g fun b c=>
aS c f∧
lX b fun b f=>
∀g:Hp,
CN (a.add g) 143 #[b,f] c fun a b=>
∀_:Hp,
St 4 b (pt d) a fun a=>
aB 4 a (pt d) fun b=>
rt e b a)
theorem ua(h:L90 g a0 a1 H R):sc g 90 #[a0,a1] H R:=
  sd (.n .e (.n .e (.n (.h 1 [] [] (hr 0 [1] 0 16 .e) .e) .e))) Tryz.func90 h
def L98:Y1:=
fun a b c d=>
CR d a 152 #[(.slice none 0 0),b] c fun a b=>
rt d a b
theorem tZ(h:L98 g a0 H R):sc g 98 #[a0] H R:=
  sd .e Tryz.func98 h
def L99:Y1:=
fun a b c d=>
bM b fun e=>
bt .u64 e fun f=>
CR d a 154 #[f] c fun c f=>
CR d a 153 #[b,(iv 0),e,c] f fun _ a=>
rt d (.tuple #[]) a
theorem tY(h:L99 g a0 H R):sc g 99 #[a0] H R:=
  sd .e Tryz.func99 h
variable {g:Gh} {a0 a1 a2 a3 a4 a5 a6 a7 a8 a9 AQ AP CY CX CW CV:Value} {H:Hp} {R:Rt}
def L118:Y1:=
fun _ a b c=>
da 3 1 8 (iv 0) b a a fun b d=>
∃(e:Jt) (f:Mt),JE e [(iv 0)] d∧∀d:Value,∀g:Hp,e [d] g→∀_:Fr,
lL d a fun a=>
Br a (
ah 1 b d fun a=>
St 1 g a d fun a=>
lA d (iv 1) fun h=>
av e f [h] a [d] g) (
rt c b g)
theorem rK(h:L118 g a0 H R):sc g 118 #[a0] H R:=
  sd (.n .e (.n .e (.n (.n .e (.n (.h 0 [8] [3,7] .e .e) .e)) .e))) Tryz.func118 h
def L119:Y1:=
fun _ a b c=>
lL a (iv 2) fun d=>
lO d (fun d=>
lG a (iv 1048576) fun e=>
(lV b e d)) fun d=>
Br (Value.bool d) (
rt c (tP (.pointer none) (iv 1)) b) (
Build Tryz.prog 224 [(0,a),(3,(iv 2))] fun a=>
dR b (.cells (Value.cells a) 224 (0,0)) fun a b=>
∃(d:Jt) (e:Mt),JE d [(ui 0)] b∧∀b:Value,∀f:Hp,d [b] f→∀_:Fr,
lL b (ui 2) fun g=>
Br g (
lM 1 (pt a) f fun g=>
Build Tryz.prog 226 [(0,(iv (-1))),(1,b),(2,b)] fun h=>
Build Tryz.prog 228 [(0,h),(1,vT),(2,(bi 255))] fun h=>
an Tryz.prog 222 1 [(0,h)] f fun h i=>
App Tryz.prog 228 5 24 (.agg #[(iv 0),(ui 0),(ui 0),vF,(bi 0)]) i g h fun g h=>
lC 1 (pt a) fun i=>
St 1 h i g fun g=>
lA b (ui 1) fun h=>
av d e [h] g [b] f) (
rt c (tP (pt a) (iv 0)) f))
theorem rJ(h:L119 g a0 H R):sc g 119 #[a0] H R:=
  sd (.n .e (.n (.n (.h 0 [] [1] .e .e) .e) (.n .e (.n (.n .e (.n (.h 0 [15] [4] .e .e) .e)) .e)))) Tryz.func119 h
def L120:Y2:=
fun a b c d e=>
ae .ptr .eql b (.pointer none) fun f=>
Br f (
rt e (tP (ui 0) (iv 10)) d) (
CR e a 175 #[b,c,(ui 0),(ui 1)] d fun a b=>
lX a fun a c=>
rt e (tP a c) b)
theorem rI(h:L120 g a0 a1 H R):sc g 120 #[a0,a1] H R:=
  sd .e Tryz.func120 h
def L123:Y3:=
fun a b c d e f=>
CR f a 176 #[b,(bi 8),c,d] e fun a b=>
lX a fun a c=>
rt f (tP a c) b
theorem rH(h:L123 g a0 a1 a2 H R):sc g 123 #[a0,a1,a2] H R:=
  sd .e Tryz.func123 h
def L131:Y1:=
fun _ a b c=>
lE a (iv 0) fun d=>
lO d (fun d=>
lE a (iv 1) fun a=>
(lV b a d)) fun d=>
rt c (Value.bool d) b
theorem rG(h:L131 g a0 H R):sc g 131 #[a0] H R:=
  sd (.n .e (.n (.h 0 [] [1] .e .e) .e)) Tryz.func131 h
def L132:Y2:=
fun _ a b c d=>
ae .num .geq b (iv 0) fun e=>
lU e (fun e=>
lC 0 a fun a=>
aj 0 a fun a=>
Ld c a fun a=>
lL b a fun a=>
(lV c a e)) fun e=>
rt d (Value.bool e) c
theorem rF(h:L132 g a0 a1 H R):sc g 132 #[a0,a1] H R:=
  sd (.n .e (.n (.h 0 [] [1] .e .e) .e)) Tryz.func132 h
def L133:Y2:=
fun _ a b c d=>
lM 6 a c fun a=>
fU (.int .i64) (ui 0) true c a b fun a=>
lX a fun _ a=>
rt d a c
theorem rE(h:L133 g a0 a1 H R):sc g 133 #[a0,a1] H R:=
  sd .e Tryz.func133 h
def L141:Y2:=
fun a b c d e=>
ae .ptr .eql b (.pointer none) fun f=>
Br f (
rt e (iv 10) d) (
lC 0 b fun f=>
CR e a 197 #[f,c] d fun a d=>
Un .not a fun a=>
Br a (
rt e (iv 3) d) (
∀a:Jt,(∀f:Hp,(∀_:Fr,
lC 7 b fun g=>
St 1 f g (.slice none 0 0) fun g=>
rt e (iv 0) g)→a [] f)→
lG c (ui 1) fun f=>
Br f (
lC 0 b fun f=>
aj 3 f fun f=>
Ld d f fun f=>
lI 1 f c d fun f=>
lE f (Value.int .i32 65535) fun f=>
Br f (
rt e (iv 8) d) (
lC 0 b fun e=>
aj 3 e fun e=>
Ld d e fun e=>
lI 1 e c d fun f=>
lA f (Value.int .i32 1) fun f=>
ah 1 e c fun e=>
St 1 d e f fun e=>
lC 0 b fun f=>
aj 3 f fun f=>
Ld e f fun f=>
lI 1 f c e fun f=>
lE f (Value.int .i32 1) fun f=>
Br f (
lC 0 b fun b=>
aj 2 b fun b=>
Ld e b fun b=>
lI 1 b c e fun f=>
lA f (Value.int .i32 1) fun f=>
ah 1 b c fun b=>
St 1 e b f fun b=>
JE a [] b) (
JE a [] e))) (
JE a [] d)))
theorem kS(h:L141 g a0 a1 H R):sc g 141 #[a0,a1] H R:=
  sd (.n .e (.n .e (.h 1 [] [0] .e .e))) Tryz.func141 h
def L142:Y2:=
fun a b c d e=>
ae .ptr .eql b (.pointer none) fun f=>
Br f (
rt e (iv 10) d) (
∀f:Jt,(∀g:Hp,(∀_:Fr,
lC 7 b fun h=>
St 1 g h (.slice none 0 0) fun h=>
rt e (iv 0) h)→f [] g)→
lG c (ui 1) fun g=>
Br g (
CR e a 198 #[b,c] d fun g h=>
lE g (iv 0) fun g=>
Br g (
rt e (iv 3) h) (
lC 0 b fun g=>
aj 3 g fun g=>
Ld h g fun g=>
lI 1 g c h fun i=>
lS i (Value.int .i32 1) fun i=>
ah 1 g c fun g=>
St 1 h g i fun g=>
lC 0 b fun h=>
aj 3 h fun h=>
Ld g h fun h=>
lI 1 h c g fun h=>
lE h (Value.int .i32 0) fun h=>
Br h (
lC 0 b fun b=>
CR e a 199 #[b,c] g fun _ a=>
JE f [] a) (
JE f [] g))) (
JE f [] d))
theorem kR(h:L142 g a0 a1 H R):sc g 142 #[a0,a1] H R:=
  sd (.n .e (.n .e (.h 1 [] [0] .e .e))) Tryz.func142 h
def L143:Y2:=
fun a b c d e=>
lW d #[(iv 0),(iv 0),(wi 0),(iv 0)] 37 fun d f=>
lN c (iv 0) fun g=>
Br g (
CR e a 41 #[c] f fun a c=>
St 4 c (pt d) a fun a=>
aB 4 a (pt d) fun c=>
rt e c a) (
Build Tryz.prog 37 [(1,(iv (-1))),(2,b)] fun a=>
St 4 f (pt d) a fun a=>
aB 4 a (pt d) fun b=>
rt e b a)
theorem rD(h:L143 g a0 a1 H R):sc g 143 #[a0,a1] H R:=
  sd .e Tryz.func143 h
def L144:Y3:=
fun a b c d e f=>
an Tryz.prog 194 1 [(0,c)] e fun e g=>
CR f a 200 #[b,e] g fun e g=>
lN e (iv 0) fun h=>
Br h (
rt f (tP vF e) g) (
∃(e:Jt) (h:Mt),JE e [c] g∧∀c:Value,∀g:Hp,e [c] g→∀_:Fr,
CR f a 201 #[c] g fun i j=>
Un .not i fun i=>
Br i (
CR f a 202 #[b,c] j fun a b=>
lQ 3 b #[(iv 0),(ui 0),(ui 0)] 226 a fun a b=>
lD 1 (pt a) b fun i=>
lD 0 (pt a) b fun k=>
ae .num .shr d k fun d=>
ae .num .and d (wi 1) fun d=>
lE d (wi 1) fun d=>
Br d (
lD 2 (pt a) b fun a=>
av e h [a] b [c] g) (
av e h [i] b [c] g)) (
lE c (ui 1) fun a=>
rt f (tP a (iv 0)) j))
theorem rC(h:L144 g a0 a1 a2 H R):sc g 144 #[a0,a1,a2] H R:=
  sd (.n .e (.n .e (.n (.n (.h 0 [1] [0,2] .e .e) .e) .e))) Tryz.func144 h
def L145:Y1:=
fun _ a b c=>
Br a (
rt c (wi 1) b) (
rt c (wi 0) b)
theorem rB(h:L145 g a0 H R):sc g 145 #[a0] H R:=
  sd .e Tryz.func145 h
def L146:Y2:=
fun a b c d e=>
dR d (.cells (Value.cells b) 85 (0,0)) fun b d=>
Ld d (pt b) fun f=>
an Tryz.prog 194 1 [(0,c)] d fun d g=>
CR e a 200 #[f,d] g fun d f=>
lN d (iv 0) fun g=>
Br g (
rt e (tP (wi 0) d) f) (
lW f #[.nilFunc] 260 fun d f=>
St 1 f (pt d) (.func (.func 203) #[] #[(pt b)]) fun f=>
Ld f (pt b) fun g=>
CR e a 204 #[g,c,(wi 0),(wi 1),(.func (.func 205) #[] #[(pt b),(pt d)])] f fun b f=>
Ld f (pt d) fun d=>
bj Tryz.prog a d #[c] f (fun a c=>
ae .num .shl b a fun a=>
rt e (tP a (iv 0)) c) (kL e))
theorem rA(h:L146 g a0 a1 H R):sc g 146 #[a0,a1] H R:=
  sd .e Tryz.func146 h
def L150:Y2:=
fun a b c d e=>
ae .ptr .eql b (.pointer none) fun f=>
Br f (
rt e (tP (iv 0) (iv 10)) d) (
CR e a 210 #[b,c] d fun a d=>
Un .not a fun a=>
Br a (
rt e (tP (iv 0) (iv 2)) d) (
lM 6 b d fun a=>
lI 1 a c d fun a=>
rt e (tP a (iv 0)) d))
theorem rz(h:L150 g a0 a1 H R):sc g 150 #[a0,a1] H R:=
  sd .e Tryz.func150 h
def L153:Y4:=
fun a b c d e f g=>
∃(h:Jt) (i:Mt),JE h [c,d,e,vT,vT] f∧∀c d e f j:Value,∀k:Hp,h [c,d,e,f,j] k→∀_:Fr,
lS d c fun l=>
ae .num .leq l (iv 12) fun m=>
Br m (
CR g a 212 #[b,c,d] k fun _ m=>
rt g (.tuple #[]) m) (
lE e (iv 0) fun m=>
Br m (
CR g a 213 #[b,c,d] k fun _ m=>
rt g (.tuple #[]) m) (
∀m:Jt,(∀n:Value,∀o:Hp,(∀_:Fr,
CR g a 215 #[b,c,d] o fun p q=>
lX p fun p r=>
∀s:Jt,(∀t u:Value,∀v:Hp,(∀_:Fr,
∀w:Jt,(∀x:Hp,(∀_:Fr,
∀y:Jt,(∀z:Value,∀A:Hp,(∀_:Fr,
Br z (
CR g a 219 #[b,c,d,t] A fun B C=>
av h i [B,d,n,f,j] C [c,d,e,f,j] k) (
CR g a 220 #[b,c,d,t] A fun B C=>
lX B fun B D=>
lS B c fun E=>
lS d B fun F=>
ae .num .quo l (iv 8) fun l=>
lL E F fun G=>
Br G (
ae .num .geq E l fun E=>
CR g a 153 #[b,c,B,n] C fun _ G=>
lA B (iv 1) fun H=>
av h i [H,d,n,E,D] G [c,d,e,f,j] k) (
ae .num .geq F l fun l=>
lA B (iv 1) fun E=>
CR g a 153 #[b,E,d,n] C fun _ C=>
av h i [c,B,n,l,D] C [c,d,e,f,j] k)))→y [z] A)→
DR x fun h=>
lG c (iv 0) fun i=>
Br i (
lS c (iv 1) fun i=>
lI 1 b i h fun i=>
lI 1 b t h fun h=>
∀l:Hp,
CN (a.add l) 218 #[i,h] x fun h i=>
Un .not h fun h=>
ax vT h vF fun h=>
JE y [h] i) (
JE y [vF] x))→w [] x)→
lU f (fun h=>
(lV v j h)) fun h=>
lU (Value.bool h) (fun h=>
lE u (iv 1) fun i=>
(lV v i h)) fun h=>
Br (Value.bool h) (
CR g a 217 #[b,c,d] v fun h i=>
Br h (
rt g (.tuple #[]) i) (
JE w [] i)) (
JE w [] v))→s [t,u] v)→
lE r (iv 2) fun h=>
Br h (
CR g a 216 #[b,c,d] q fun _ h=>
lS d (iv 1) fun i=>
lS p c fun j=>
lS i j fun i=>
JE s [i,(iv 1)] h) (
JE s [p,r] q))→m [n] o)→
Un .not f fun f=>
Br f (
CR g a 214 #[b,c,d] k fun _ a=>
lS e (iv 1) fun b=>
JE m [b] a) (
JE m [e] k)))
theorem kQ(h:L153 g a0 a1 a2 a3 H R):sc g 153 #[a0,a1,a2,a3] H R:=
  sd (.n .e (.n .e (.n (.h 0 [1,2,3,8,9] [0] (.n (hN 3 (.h 1 [3] [0,1,2,8,9,10] .e (.n .e (.h 1 [11,12] [0,1,2,3,8,9,10] .e (.h 1 [] [0,1,2,3,8,9,10,11] (.n (.h 0 [] [1] .e .e) .e) (.n (.h 1 [87] [0,1,2,3,8,9,10,11] (.h 1 [] [] (hr 0 [] 0 2 (.h 2 [2] [] (hr 0 [] 3 12 .e) (hr 0 [] 3 11 (.h 3 [14] [] .e .e)))) .e) .e) .e)))))) .e) .e) .e))) Tryz.func153 h
def L154:Y1:=
fun a b c d=>
Br vF (
bt .u32 b fun e=>
CR d a 221 #[e] c fun e f=>
rt d e f) (
CR d a 222 #[b] c fun a b=>
rt d a b)
theorem ry(h:L154 g a0 H R):sc g 154 #[a0] H R:=
  sd .e Tryz.func154 h
def L175:Y4:=
fun a b c d e f g=>
ae .ptr .eql b (.pointer none) fun h=>
Br h (
rt g (tP (ui 0) (iv 10)) f) (
CR g a 243 #[b,c,d,e] f fun f h=>
lN f (iv 0) fun i=>
Br i (
rt g (tP (ui 0) f) h) (
CR g a 244 #[b,c,d,e] h fun f h=>
lX f fun f i=>
∀j:Jt,(∀k:Value,∀l:Hp,(∀_:Fr,
CR g a 141 #[b,k] l fun m n=>
lN m (iv 0) fun o=>
Br o (
rt g (tP (ui 0) m) n) (
rt g (tP k (iv 0)) n))→j [k] l)→
Un .not i fun i=>
Br i (
lC 0 b fun i=>
CR g a 245 #[i,(iv 1)] h fun i k=>
Un .not i fun i=>
Br i (
rt g (tP (ui 0) (iv 9)) k) (
lC 0 b fun b=>
Build Tryz.prog 226 [(0,c),(1,d),(2,e)] fun c=>
CR g a 246 #[b,c] k fun a b=>
JE j [a] b)) (
JE j [f] h)))
theorem ru(h:L175 g a0 a1 a2 a3 H R):sc g 175 #[a0,a1,a2,a3] H R:=
  sd (hN 4 (.h 1 [11] [0] .e .e)) Tryz.func175 h
def L176:Y4:=
fun a b c d e f g=>
dR f (.cells (Value.cells c) 5 (0,0)) fun c f=>
ae .ptr .eql b (.pointer none) fun h=>
Br h (
rt g (tP (ui 0) (iv 10)) f) (
Ld f (pt c) fun h=>
lG h (bi 15) fun h=>
Br h (
rt g (tP (ui 0) (iv 1)) f) (
an Tryz.prog 194 2 [(0,d),(1,e)] f fun f h=>
CR g a 177 #[b,f] h fun b f=>
lX b fun b h=>
lN h (iv 0) fun i=>
Br i (
rt g (tP (ui 0) h) f) (
Build Tryz.prog 236 [(0,d),(1,e)] fun d=>
CR g a 178 #[b,d,(.func (.func 247) #[] #[(pt c)])] f fun a b=>
lX a fun a c=>
rt g (tP a c) b)))
theorem rp(h:L176 g a0 a1 a2 a3 H R):sc g 176 #[a0,a1,a2,a3] H R:=
  sd .e Tryz.func176 h
def L177:Y2:=
fun a b c d e=>
ae .ptr .eql b (.pointer none) fun f=>
Br f (
rt e (tP (.pointer none) (iv 10)) d) (
bM c fun f=>
∃(g:Jt) (h:Mt),JE g [(iv 0)] d∧∀d:Value,∀i:Hp,g [d] i→∀_:Fr,
lL d f fun f=>
Br f (
lI 1 c d i fun c=>
CR e a 249 #[b,c] i fun c f=>
lX c fun c j=>
lQ 3 f #[(iv 0),(ui 0),(ui 0)] 226 c fun _ c=>
lN j (iv 0) fun f=>
Br f (
rt e (tP (.pointer none) j) c) (
lA d (iv 1) fun f=>
av g h [f] c [d] i)) (
CR e a 185 #[b] i fun c d=>
da 3 1 8 (iv 0) d c c fun c d=>
Build Tryz.prog 305 [(0,b),(1,c)] fun c=>
dR d (.cells (Value.cells c) 305 (0,0)) fun c d=>
CR e a 65 #[b] d fun a b=>
bM a fun d=>
∃(f:Jt) (g:Mt),JE f [(iv 0)] b∧∀b:Value,∀h:Hp,f [b] h→∀_:Fr,
lL b d fun d=>
Br d (
lI 1 a b h fun a=>
lM 1 (pt c) h fun d=>
ah 1 d a fun a=>
St 1 h a b fun a=>
lA b (iv 1) fun d=>
av f g [d] a [b] h) (
rt e (tP (pt c) (iv 0)) h)))
theorem rm(h:L177 g a0 a1 H R):sc g 177 #[a0,a1] H R:=
  sd (.n .e (.n .e (.n (.n .e (.n (.h 0 [17] [0,15,16] .e .e) .e)) (.n .e (.n (.n .e (.n (.h 0 [40] [10,38,39] .e .e) .e)) .e))))) Tryz.func177 h
def L178:Y3:=
fun a b c d e f=>
dR e (.cells (Value.cells b) 231 (0,0)) fun b e=>
dR e (.cells (Value.cells c) 236 (0,0)) fun c e=>
dR e (.cells (Value.cells d) 237 (0,0)) fun d e=>
lW e #[(ui 0)] 110 fun e g=>
lW g #[(iv 0)] 27 fun g h=>
kM h fun h i=>
lQ 1 i #[(.map none)] 307 h fun h i=>
lW i #[.nilFunc] 308 fun i j=>
St 1 j (pt i) (.func (.func 252) #[] #[(pt h),(pt b),(pt d),(pt i)]) fun d=>
Ld d (pt i) fun h=>
aB 3 d (pt c) fun c=>
bj Tryz.prog a h #[c] d (fun c d=>
lX c fun c h=>
St 1 d (pt e) c fun c=>
St 1 c (pt g) h fun c=>
AW Tryz.prog a 250 #[(pt b),(pt e),(pt g)] c fun a=>
Ld a (pt e) fun b=>
Ld a (pt g) fun c=>
rt f (tP b c) a) IT
theorem rj(h:L178 g a0 a1 a2 H R):sc g 178 #[a0,a1,a2] H R:=
 z6 (hn:=(.n .e (.n .e .e))) Tryz.func178 h (by kernel_rfl)
def L185:Y1:=
fun _ a b c=>
ae .ptr .eql a (.pointer none) fun d=>
Br d (
rt c (iv 0) b) (
lM 4 a b fun a=>
rt c a b)
theorem ri(h:L185 g a0 H R):sc g 185 #[a0] H R:=
  sd .e Tryz.func185 h
variable {g:Gh} {a0 a1 a2 a3 a4 a5 a6 a7 a8 a9 AQ AP CY CX CW CV:Value} {H:Hp} {R:Rt}
def L196:Y1:=
fun _ a b c=>
ae .ptr .eql a (.pointer none) fun d=>
Br d (
rt c (iv 0) b) (
lM 3 a b fun a=>
rt c a b)
theorem rh(h:L196 g a0 H R):sc g 196 #[a0] H R:=
  sd .e Tryz.func196 h
def L197:Y2:=
fun a b c d e=>
lM 0 b d fun b=>
CR e a 286 #[b,c] d fun a b=>
lX a fun a c=>
lQ 3 b #[(iv 0),(ui 0),(ui 0)] 226 a fun _ a=>
lE c (iv 0) fun b=>
rt e b a
theorem rf(h:L197 g a0 a1 H R):sc g 197 #[a0,a1] H R:=
  sd .e Tryz.func197 h
def L198:Y2:=
fun _ a b c d=>
ae .ptr .eql a (.pointer none) fun e=>
lO e (fun e=>
bt .i64 b fun f=>
lC 0 a fun g=>
aj 3 g fun g=>
Ld c g fun g=>
bM g fun g=>
ae .num .geq f g fun f=>
(lV c f e)) fun e=>
Br (Value.bool e) (
rt d (iv 0) c) (
lC 0 a fun a=>
aj 3 a fun a=>
Ld c a fun a=>
lI 1 a b c fun a=>
bt .i64 a fun a=>
rt d a c)
theorem q9(h:L198 g a0 a1 H R):sc g 198 #[a0,a1] H R:=
  sd (.n .e (.n (.n (.h 0 [] [1] .e .e) .e) .e)) Tryz.func198 h
def L199:Y2:=
fun a b c d e=>
an Tryz.prog 194 1 [(0,c)] d fun c d=>
∃(f:Jt) (g:Mt),JE f [c] d∧∀c:Value,∀d:Hp,f [c] d→∀_:Fr,
bM c fun h=>
lG h (iv 0) fun h=>
Br h (
bM c fun h=>
lS h (iv 1) fun h=>
lI 1 c h d fun i=>
dm 1 c none (some h) fun h=>
ae .num .leq i (ui 1) fun j=>
Br j (
av f g [h] d [c] d) (
lM 2 b d fun j=>
lI 1 j i d fun k=>
lS k (Value.int .i32 1) fun k=>
ah 1 j i fun j=>
St 1 d j k fun j=>
lM 2 b j fun k=>
lI 1 k i j fun k=>
lG k (Value.int .i32 0) fun k=>
Br k (
av f g [h] j [c] d) (
CR e a 287 #[b,i] j fun j k=>
lQ 3 k #[(iv 0),(ui 0),(ui 0)] 226 j fun j k=>
DR k fun l=>
lM 1 b l fun m=>
aB 3 l (pt j) fun l=>
CN a 288 #[m,l] k fun _ k=>
lM 0 b k fun b=>
CR e a 289 #[b,i] k fun _ a=>
lD 1 (pt j) a fun b=>
lD 2 (pt j) a fun i=>
an Tryz.prog 194 2 [(0,b),(1,i)] a fun a b=>
App Tryz.prog 110 1 4 (ui 0) b h a fun a b=>
av f g [a] b [c] d))) (
rt e (.tuple #[]) d)
theorem q8(h:L199 g a0 a1 H R):sc g 199 #[a0,a1] H R:=
  sd (.n .e (.n (.h 0 [4] [0] (.n .e (.n (hN 6 (.n (.h 0 [0,1,2,3,4,5] [] .e .e) .e)) .e)) .e) .e)) Tryz.func199 h
def L200:Y2:=
fun a b c d e=>
ae .ptr .eql b (.pointer none) fun f=>
Br f (
rt e (iv 10) d) (
bM c fun f=>
∃(g:Jt) (h:Mt),JE g [(iv 0)] d∧∀d:Value,∀i:Hp,g [d] i→∀_:Fr,
lL d f fun f=>
Br f (
lI 1 c d i fun c=>
CR e a 249 #[b,c] i fun a b=>
lX a fun a c=>
lQ 3 b #[(iv 0),(ui 0),(ui 0)] 226 a fun _ a=>
lN c (iv 0) fun b=>
Br b (
rt e c a) (
lA d (iv 1) fun b=>
av g h [b] a [d] i)) (
rt e (iv 0) i))
theorem q7(h:L200 g a0 a1 H R):sc g 200 #[a0,a1] H R:=
  sd (.n .e (.n .e (.n (.n .e (.n (.h 0 [13] [0,11,12] .e .e) .e)) .e))) Tryz.func200 h
def L201:Y1:=
fun _ a b c=>
lE a (ui 0) fun d=>
lO d (fun d=>
lE a (ui 1) fun a=>
(lV b a d)) fun d=>
rt c (Value.bool d) b
theorem q6(h:L201 g a0 H R):sc g 201 #[a0] H R:=
  sd (.n .e (.n (.h 0 [] [1] .e .e) .e)) Tryz.func201 h
def L202:Y2:=
fun a b c d e=>
lW d #[(iv 0),(ui 0),(ui 0)] 226 fun d f=>
CR e a 249 #[b,c] f fun a b=>
lX a fun a _=>
lQ 3 b #[(iv 0),(ui 0),(ui 0)] 226 a fun a b=>
aB 3 b (pt a) fun a=>
St 3 b (pt d) a fun a=>
aB 3 a (pt d) fun b=>
rt e b a
theorem q5(h:L202 g a0 a1 H R):sc g 202 #[a0,a1] H R:=
  sd .e Tryz.func202 h
def L203:Y2:=
fun a b c d e=>
CR e a 201 #[b] d fun d f=>
Br d (
Ld f c fun d=>
CR e a 185 #[d] f fun d g=>
rt e d g) (
DR f fun d=>
Ld d c fun g=>
Ld d c fun c=>
∀h:Hp,
CN (a.add h) 202 #[c,b] f fun b c=>
aS c d∧
zP 0 b fun b=>
∀f:Hp,
CN (a.add f) 150 #[g,b] c fun a b=>
aS b d∧
lX a fun a _=>
rt e a b)
theorem q4(h:L203 g a0 a1 H R):sc g 203 #[a0,a1] H R:=
  sd (.n .e (.n .e (.n (.h 1 [] [] (hr 0 [1] 0 11 .e) .e) .e))) Tryz.func203 h
def L204:Y5:=
fun a b c d e f g h=>
dR g (.cells (Value.cells b) 85 (0,0)) fun b g=>
dR g (.cells (Value.cells f) 265 (0,0)) fun f g=>
kM g fun g i=>
aN (.int .u32) i g (ui 0) d fun d=>
aN (.int .u32) d g (ui 1) e fun d=>
lQ 1 d #[(.map none)] 349 g fun d e=>
lW e #[.nilFunc] 350 fun e g=>
St 1 g (pt e) (.func (.func 290) #[] #[(pt d),(pt b),(pt f),(pt e)]) fun b=>
Ld b (pt e) fun d=>
bj Tryz.prog a d #[c] b (fun a b=>
rt h a b) (kL h)
theorem qZ(h:L204 g a0 a1 a2 a3 a4 H R):sc g 204 #[a0,a1,a2,a3,a4] H R:=
  sd .e Tryz.func204 h
def L205:Y5:=
fun a b c d e f g h=>
dR g (.cells (Value.cells b) 226 (0,0)) fun b g=>
Ld g e fun e=>
lD 0 (pt b) g fun i=>
CR h a 150 #[e,i] g fun e g=>
lX e fun e _=>
DR g fun i=>
Ld i f fun j=>
lD 1 (pt b) i fun k=>
Ld i f fun f=>
lD 2 (pt b) i fun b=>
∀l:Hp,
bj Tryz.prog (a.add l) j #[k] g (fun g j=>
aS j i∧
lS g e fun g=>
lS g (iv 1) fun g=>
ae .num .shl c g fun c=>
∀g:Hp,
bj Tryz.prog (a.add g) f #[b] j (fun a b=>
lS a e fun a=>
lS a (iv 1) fun a=>
ae .num .shl d a fun a=>
lA c a fun a=>
rt h a b) tW) tW
theorem qY(h:L205 g a0 a1 a2 a3 a4 H R):sc g 205 #[a0,a1,a2,a3,a4] H R:=
  sd (.n .e (.n .e (.n (.h 1 [] [] (hr 0 [1] 0 4 (.h 0 [5] [1] (hr 0 [1] 9 4 (.h 0 [14] [1] (.h 0 [4] [1] (hr 0 [1] 6 3 (.h 0 [13] [1] (hr 0 [1] 15 5 .e) .e)) .e) .e)) .e)) .e) .e))) Tryz.func205 h
def L210:Y2:=
fun _ a b c d=>
ae .num .geq b (iv 0) fun e=>
lU e (fun e=>
lM 4 a c fun a=>
lL b a fun a=>
(lV c a e)) fun e=>
rt d (Value.bool e) c
theorem qX(h:L210 g a0 a1 H R):sc g 210 #[a0,a1] H R:=
  sd (.n .e (.n (.h 0 [] [1] .e .e) .e)) Tryz.func210 h
def L212:Y3:=
fun a b c d e f=>
lA c (iv 1) fun g=>
∃(h:Jt) (i:Mt),JE h [g] e∧∀e:Value,∀g:Hp,h [e] g→∀_:Fr,
lL e d fun d=>
Br d (
∃(d:Jt) (j:Mt),JE d [e] g∧∀k:Value,∀l:Hp,d [k] l→∀_:Fr,
∀m:Jt,(∀n:Value,∀o:Hp,(∀_:Fr,
Br n (
DR o fun p=>
lS k (iv 1) fun q=>
lS k (iv 1) fun r=>
lI 1 b r p fun r=>
lI 1 b k p fun p=>
ah 1 b k fun s=>
St 1 o s r fun r=>
ah 1 b q fun q=>
St 1 r q p fun p=>
lS k (iv 1) fun q=>
av d j [q] p [k] l) (
lA e (iv 1) fun d=>
av h i [d] o [e] g))→m [n] o)→
DR l fun d=>
lG k c fun c=>
Br c (
lI 1 b k d fun c=>
lS k (iv 1) fun e=>
lI 1 b e d fun b=>
∀d:Hp,
CN (a.add d) 218 #[c,b] l fun a b=>
ax vT a vF fun a=>
JE m [a] b) (
JE m [vF] l)) (
rt f (.tuple #[]) g)
theorem qW(h:L212 g a0 a1 a2 H R):sc g 212 #[a0,a1,a2] H R:=
  sd (.n .e (.n (.h 0 [6] [0,1,2] (.n .e (.n (.n (.n .e (.n (.h 0 [7] [0,1,2,6] (.n (.h 1 [30] [0,1,2,6,7] (.h 1 [] [] (hr 0 [] 0 3 (.h 2 [3] [] (hr 0 [] 4 11 .e) (hr 0 [] 4 10 (.h 3 [14] [] .e .e)))) .e) .e) (.n (.n (.h 0 [0,1,2,3,4,5,6,7,8,9,10,11,12,13,14,15,16,17] [] .e .e) .e) .e)) .e) .e)) .e) .e)) .e) .e)) Tryz.func212 h
def L213:Y3:=
fun a b c d e f=>
lS d c fun d=>
lS d (iv 1) fun g=>
ae .num .quo g (iv 2) fun g=>
∃(h:Jt) (i:Mt),JE h [g] e∧∀e:Value,∀g:Hp,h [e] g→∀_:Fr,
ae .num .geq e (iv 0) fun j=>
Br j (
CR f a 303 #[b,e,d,c] g fun _ j=>
lS e (iv 1) fun k=>
av h i [k] j [e] g) (
lS d (iv 1) fun d=>
∃(e:Jt) (h:Mt),JE e [d] g∧∀d:Value,∀g:Hp,e [d] g→∀_:Fr,
ae .num .geq d (iv 0) fun i=>
Br i (
DR g fun i=>
lA c d fun j=>
lA c d fun k=>
lI 1 b k i fun k=>
lI 1 b c i fun i=>
ah 1 b c fun l=>
St 1 g l k fun k=>
ah 1 b j fun j=>
St 1 k j i fun i=>
CR f a 303 #[b,(iv 0),d,c] i fun _ a=>
lS d (iv 1) fun b=>
av e h [b] a [d] g) (
rt f (.tuple #[]) g))
theorem qV(h:L213 g a0 a1 a2 H R):sc g 213 #[a0,a1,a2] H R:=
  sd (hN 3 (.n (.n .e (.n (.h 0 [9] [0,6,7,8] .e .e) .e)) (.n .e (.n (.h 0 [10] [0,6,7] (.n .e (.n (.n (.n (.h 0 [0,1,2,3,4,5,6,7,8,9,10,11,12,13,14,15,16,17,18,19] [] .e .e) .e) .e) .e)) .e) .e)))) Tryz.func213 h
def L214:Y3:=
fun a b c d e f=>
lS d c fun d=>
ae .num .geq d (iv 8) fun g=>
Br g (
bt .u64 d fun g=>
lQ 1 e #[(wi 0)] 371 g fun g h=>
CR f a 304 #[d] h fun h i=>
ae .num .quo d (iv 4) fun j=>
ae .num .mul j (iv 2) fun j=>
lA c j fun j=>
lS j (iv 1) fun j=>
∃(k:Jt) (l:Mt),JE k [j] i∧∀i:Value,∀j:Hp,k [i] j→∀_:Fr,
ae .num .quo d (iv 4) fun m=>
ae .num .mul m (iv 2) fun m=>
lA c m fun m=>
lA m (iv 1) fun m=>
ae .num .leq i m fun m=>
Br m (
CR f a 305 #[(pt g)] j fun a g=>
lS h (wi 1) fun h=>
ae .num .and a h fun a=>
bt .i64 a fun a=>
∀h:Jt,(∀m:Value,∀n:Hp,(∀_:Fr,
DR n fun o=>
lA c m fun p=>
lA c m fun c=>
lI 1 b c o fun c=>
lI 1 b i o fun o=>
ah 1 b i fun q=>
St 1 n q c fun c=>
ah 1 b p fun b=>
St 1 c b o fun b=>
lA i (iv 1) fun c=>
av k l [c] b [i] j)→h [m] n)→
ae .num .geq a d fun b=>
Br b (
lS a d fun b=>
JE h [b] g) (
JE h [a] g)) (
rt f (.tuple #[]) j)) (
rt f (.tuple #[]) e)
theorem qU(h:L214 g a0 a1 a2 H R):sc g 214 #[a0,a1,a2] H R:=
  sd (.n .e (.n .e (.n (hN 3 (.n (.h 0 [9] [0,1,6,7,8] (.n .e (.n (.n (.n .e (.h 1 [10] [0,1,6,7,8,9] .e (.h 0 [0,1,2,3,4,5,6,7,8,9,10,11,12,13,14,15,16,17,18,19] [] .e .e))) .e) .e)) .e) .e)) .e))) Tryz.func214 h
def L215:Y3:=
fun a b c d e f=>
lS d c fun d=>
lW e #[(iv 0)] 3 fun e g=>
ae .num .quo d (iv 4) fun h=>
ae .num .mul h (iv 1) fun h=>
lA c h fun h=>
ae .num .quo d (iv 4) fun i=>
ae .num .mul i (iv 2) fun i=>
lA c i fun i=>
ae .num .quo d (iv 4) fun j=>
ae .num .mul j (iv 3) fun j=>
lA c j fun c=>
∀j:Jt,(∀k:Value,∀l:Hp,(∀_:Fr,
Ld l (pt e) fun m=>
lE m (iv 0) fun n=>
Br n (
rt f (tP k (iv 1)) l) (
lE m (iv 12) fun m=>
Br m (
rt f (tP k (iv 2)) l) (
rt f (tP k (iv 0)) l)))→j [k] l)→
ae .num .geq d (iv 8) fun k=>
Br k (
∀k:Jt,(∀l m n:Value,∀o:Hp,(∀_:Fr,
CR f a 307 #[b,l,m,n,(pt e)] o fun p q=>
JE j [p] q)→k [l,m,n] o)→
ae .num .geq d (iv 50) fun d=>
Br d (
CR f a 306 #[b,h,(pt e)] g fun d l=>
CR f a 306 #[b,i,(pt e)] l fun l m=>
CR f a 306 #[b,c,(pt e)] m fun a b=>
JE k [d,l,a] b) (
JE k [h,i,c] g)) (
JE j [i] g)
theorem qT(h:L215 g a0 a1 a2 H R):sc g 215 #[a0,a1,a2] H R:=
  sd (hN 6 (.h 1 [11] [9] (.n .e (.n (.h 1 [10,11,12] [0,9] .e .e) .e)) .e)) Tryz.func215 h
def L216:Y3:=
fun _ a b c d e=>
lS c (iv 1) fun c=>
∃(f:Jt) (g:Mt),JE f [b,c] d∧∀b c:Value,∀d:Hp,f [b,c] d→∀_:Fr,
lL b c fun h=>
Br h (
DR d fun h=>
lI 1 a c h fun i=>
lI 1 a b h fun h=>
ah 1 a b fun j=>
St 1 d j i fun i=>
ah 1 a c fun a=>
St 1 i a h fun a=>
lA b (iv 1) fun h=>
lS c (iv 1) fun i=>
av f g [h,i] a [b,c] d) (
rt e (.tuple #[]) d)
theorem qS(h:L216 g a0 a1 a2 H R):sc g 216 #[a0,a1,a2] H R:=
  sd (.n .e (.n .e (.n (.h 0 [6,7] [0] (.n .e (.n (.n (.h 0 [0,1,2,3,4,5,6,7,8,9,10,11,12,13,14,15] [] .e .e) .e) .e)) .e) .e))) Tryz.func216 h
def L217:Y3:=
fun a b c d e f=>
lA c (iv 1) fun g=>
∃(h:Jt) (i:Mt),JE h [g,(iv 0)] e∧∀e g:Value,∀j:Hp,h [e,g] j→∀_:Fr,
lL g (iv 5) fun k=>
Br k (
∀k:Jt,(∀l:Value,∀m:Hp,(∀_:Fr,
lA g (iv 1) fun n=>
av h i [l,n] m [e,g] j)→k [l] m)→
∃(g:Jt) (h:Mt),JE g [e] j∧∀e:Value,∀i:Hp,g [e] i→∀_:Fr,
∀l:Jt,(∀m:Value,∀n:Hp,(∀_:Fr,
Br m (
lA e (iv 1) fun o=>
av g h [o] n [e] i) (
lE e d fun g=>
Br g (
rt f vT n) (
lS d c fun g=>
lL g (iv 50) fun g=>
Br g (
rt f vF n) (
DR n fun g=>
lS e (iv 1) fun h=>
lS e (iv 1) fun o=>
lI 1 b o g fun o=>
lI 1 b e g fun g=>
ah 1 b e fun p=>
St 1 n p o fun o=>
ah 1 b h fun h=>
St 1 o h g fun g=>
∀h:Jt,(∀o:Hp,(∀_:Fr,
lS d e fun p=>
ae .num .geq p (iv 2) fun p=>
Br p (
lA e (iv 1) fun p=>
∃(q:Jt) (r:Mt),JE q [p] o∧∀p:Value,∀s:Hp,q [p] s→∀_:Fr,
lL p d fun t=>
Br t (
DR s fun t=>
lI 1 b p t fun u=>
lS p (iv 1) fun v=>
lI 1 b v t fun t=>
CN a 218 #[u,t] s fun t u=>
Un .not t fun t=>
Br t (
JE k [e] u) (
DR u fun t=>
lS p (iv 1) fun v=>
lS p (iv 1) fun w=>
lI 1 b w t fun w=>
lI 1 b p t fun t=>
ah 1 b p fun x=>
St 1 u x w fun u=>
ah 1 b v fun v=>
St 1 u v t fun t=>
lA p (iv 1) fun u=>
av q r [u] t [p] s)) (
JE k [e] s)) (
JE k [e] o))→h [] o)→
lS e c fun c=>
ae .num .geq c (iv 2) fun c=>
Br c (
lS e (iv 1) fun c=>
∃(k:Jt) (o:Mt),JE k [c] g∧∀c:Value,∀p:Hp,k [c] p→∀_:Fr,
ae .num .geq c (iv 1) fun q=>
Br q (
DR p fun q=>
lI 1 b c q fun r=>
lS c (iv 1) fun s=>
lI 1 b s q fun q=>
CN a 218 #[r,q] p fun q r=>
Un .not q fun q=>
Br q (
JE h [] r) (
DR r fun q=>
lS c (iv 1) fun s=>
lS c (iv 1) fun t=>
lI 1 b t q fun t=>
lI 1 b c q fun q=>
ah 1 b c fun u=>
St 1 r u t fun r=>
ah 1 b s fun s=>
St 1 r s q fun q=>
lS c (iv 1) fun r=>
av k o [r] q [c] p)) (
JE h [] p)) (
JE h [] g)))))→l [m] n)→
DR i fun c=>
lL e d fun d=>
Br d (
lI 1 b e c fun d=>
lS e (iv 1) fun e=>
lI 1 b e c fun b=>
∀c:Hp,
CN (a.add c) 218 #[d,b] i fun a b=>
Un .not a fun a=>
ax vT a vF fun a=>
JE l [a] b) (
JE l [vF] i)) (
rt f vF j)
theorem qR(h:L217 g a0 a1 a2 H R):sc g 217 #[a0,a1,a2] H R:=
  sd (.n .e (.n .e (.n (.n .e (.n (.h 0 [7,8] [0,1,2] (.n .e (.h 1 [7] [0,1,2,8] (.n (.n (.n (.h 0 [7] [0,1,2,8] (.n (.h 1 [32] [0,1,2,7,8] (.h 1 [] [] (hr 0 [] 0 3 (.h 2 [3] [] (hr 0 [] 4 12 .e) (hr 0 [] 4 11 (.h 3 [15] [] .e .e)))) .e) .e) .e) .e) .e) (.n .e (.n .e (.n (.h 0 [0,1,2,3,4,5,6,7,8,9,10,11,12,13,14,15,16,17] [] .e .e) (.h 1 [] [0,1,2,7,8] (.n .e (.n (.n .e (.n (.h 0 [9] [0,1,2,7,8] (.n .e (.n (.n (.n (.n (.h 0 [0,1,2,3,4,5,6,7,8,9,10] [] .e .e) .e) (.h 0 [0,1,2,3,4,5,6,7,8,9,10,11,12,13,14,15,16,17] [] .e .e)) .e) .e)) .e) .e)) .e)) (.n .e (.n (.n .e (.n (.h 0 [10] [0,1,2,7,8] (.n .e (.n (.n (.n (.n (.h 0 [0,1,2,3,4,5,6,7,8,9,10] [] .e .e) .e) (.h 0 [0,1,2,3,4,5,6,7,8,9,10,11,12,13,14,15,16,17] [] .e .e)) .e) .e)) .e) .e)) .e))))))) .e) .e)) .e) .e)) .e))) Tryz.func217 h
def L218:Y2:=
fun a b c d e=>
∀f:Jt,(∀g:Value,∀h:Hp,(∀_:Fr,
rt e g h)→f [g] h)→
CR e a 308 #[b] d fun d g=>
Split d true (
CR e a 308 #[c] g fun a d=>
Un .not a fun a=>
ax vT a vF fun a=>
Split a false (
lL b c fun a=>
ax vF vT a fun a=>
JE f [a] d) (
ax vT vT undef fun a=>
JE f [a] d)) (
ax vF undef vF fun a=>
lL b c fun b=>
ax a vT b fun a=>
JE f [a] g)
theorem qQ(h:L218 g a0 a1 H R):sc g 218 #[a0,a1] H R:=
  sd (.n .e (.h 1 [4] [] .e .e)) Tryz.func218 h
def L219:Y4:=
fun a b c d e f g=>
DR f fun h=>
lI 1 b e h fun i=>
lI 1 b c h fun h=>
ah 1 b c fun j=>
St 1 f j i fun f=>
ah 1 b e fun e=>
St 1 f e h fun e=>
lA c (iv 1) fun f=>
lS d (iv 1) fun d=>
∃(h:Jt) (i:Mt),JE h [f,d] e∧∀d e:Value,∀f:Hp,h [d,e] f→∀_:Fr,
∃(j:Jt) (k:Mt),JE j [d] f∧∀l:Value,∀m:Hp,j [l] m→∀_:Fr,
∀n:Jt,(∀o:Value,∀p:Hp,(∀_:Fr,
Br o (
lA l (iv 1) fun q=>
av j k [q] p [l] m) (
∃(j:Jt) (k:Mt),JE j [e] p∧∀q:Value,∀r:Hp,j [q] r→∀_:Fr,
∀s:Jt,(∀t:Value,∀u:Hp,(∀_:Fr,
Br t (
lS q (iv 1) fun v=>
av j k [v] u [q] r) (
lG l q fun j=>
Br j (
rt g l u) (
DR u fun g=>
lI 1 b q g fun j=>
lI 1 b l g fun g=>
ah 1 b l fun k=>
St 1 u k j fun j=>
ah 1 b q fun k=>
St 1 j k g fun g=>
lA l (iv 1) fun j=>
lS q (iv 1) fun k=>
av h i [j,k] g [d,e] f)))→s [t] u)→
DR r fun d=>
ae .num .leq l q fun f=>
Br f (
lI 1 b c d fun f=>
lI 1 b q d fun d=>
∀g:Hp,
CN (a.add g) 218 #[f,d] r fun d f=>
ax vT d vF fun d=>
JE s [d] f) (
JE s [vF] r)))→n [o] p)→
DR m fun d=>
ae .num .leq l e fun e=>
Br e (
lI 1 b c d fun c=>
lI 1 b l d fun b=>
∀d:Hp,
CN (a.add d) 218 #[c,b] m fun a b=>
Un .not a fun a=>
ax vT a vF fun a=>
JE n [a] b) (
JE n [vF] m)
theorem qP(h:L219 g a0 a1 a2 a3 H R):sc g 219 #[a0,a1,a2,a3] H R:=
  sd (.n .e (.n (.h 0 [0,1,2,3,4,5,6,7,8,9,10,11,12,13,14,15] [] .e .e) (.n .e (.n (.n (.h 0 [9,10] [0,1] (.n (.n (.n (.h 0 [9] [0,1,10] (.n (.h 1 [43] [0,1,9,10] (.h 1 [] [] (hr 0 [] 0 3 (.h 2 [3] [] (hr 0 [] 4 11 .e) (hr 0 [] 4 10 (.h 3 [14] [] .e .e)))) .e) .e) .e) .e) .e) (.n (.n (.h 0 [10] [0,1,9] (.n (.h 1 [59] [0,1,9,10] (.h 1 [] [] (hr 0 [] 0 3 (.h 2 [3] [] (hr 0 [] 4 10 .e) (hr 0 [] 4 9 (.h 3 [13] [] .e .e)))) .e) .e) .e) .e) .e) (.n .e (.n (.h 0 [0,1,2,3,4,5,6,7,8,9,10,11,12,13,14,15] [] .e .e) .e)))) .e) .e) .e) .e)))) Tryz.func219 h
def L220:Y4:=
fun a b c d e f g=>
DR f fun h=>
lI 1 b e h fun i=>
lI 1 b c h fun h=>
ah 1 b c fun j=>
St 1 f j i fun f=>
ah 1 b e fun e=>
St 1 f e h fun e=>
lA c (iv 1) fun f=>
lS d (iv 1) fun d=>
∃(h:Jt) (i:Mt),JE h [f] e∧∀e:Value,∀f:Hp,h [e] f→∀_:Fr,
∀j:Jt,(∀k:Value,∀l:Hp,(∀_:Fr,
Br k (
lA e (iv 1) fun m=>
av h i [m] l [e] f) (
∃(h:Jt) (i:Mt),JE h [d] l∧∀m:Value,∀n:Hp,h [m] n→∀_:Fr,
∀o:Jt,(∀p:Value,∀q:Hp,(∀_:Fr,
Br p (
lS m (iv 1) fun r=>
av h i [r] q [m] n) (
lG e m fun h=>
Br h (
DR q fun h=>
lI 1 b c h fun i=>
lI 1 b m h fun h=>
ah 1 b m fun r=>
St 1 q r i fun i=>
ah 1 b c fun r=>
St 1 i r h fun h=>
rt g (tP m vT) h) (
DR q fun h=>
lI 1 b m h fun i=>
lI 1 b e h fun h=>
ah 1 b e fun r=>
St 1 q r i fun i=>
ah 1 b m fun r=>
St 1 i r h fun h=>
lA e (iv 1) fun i=>
lS m (iv 1) fun r=>
∃(s:Jt) (t:Mt),JE s [i,r] h∧∀h i:Value,∀r:Hp,s [h,i] r→∀_:Fr,
∃(u:Jt) (v:Mt),JE u [h] r∧∀w:Value,∀x:Hp,u [w] x→∀_:Fr,
∀y:Jt,(∀z:Value,∀A:Hp,(∀_:Fr,
Br z (
lA w (iv 1) fun B=>
av u v [B] A [w] x) (
∃(u:Jt) (v:Mt),JE u [i] A∧∀B:Value,∀C:Hp,u [B] C→∀_:Fr,
∀D:Jt,(∀E:Value,∀F:Hp,(∀_:Fr,
Br E (
lS B (iv 1) fun G=>
av u v [G] F [B] C) (
lG w B fun u=>
Br u (
DR F fun u=>
lI 1 b c u fun v=>
lI 1 b B u fun u=>
ah 1 b B fun G=>
St 1 F G v fun v=>
ah 1 b c fun G=>
St 1 v G u fun u=>
rt g (tP B vF) u) (
DR F fun g=>
lI 1 b B g fun u=>
lI 1 b w g fun g=>
ah 1 b w fun v=>
St 1 F v u fun u=>
ah 1 b B fun v=>
St 1 u v g fun g=>
lA w (iv 1) fun u=>
lS B (iv 1) fun v=>
av s t [u,v] g [h,i] r)))→D [E] F)→
DR C fun g=>
ae .num .leq w B fun h=>
Br h (
lI 1 b B g fun h=>
lI 1 b c g fun g=>
∀r:Hp,
CN (a.add r) 218 #[h,g] C fun g h=>
Un .not g fun g=>
ax vT g vF fun g=>
JE D [g] h) (
JE D [vF] C)))→y [z] A)→
DR x fun g=>
ae .num .leq w i fun h=>
Br h (
lI 1 b w g fun h=>
lI 1 b c g fun g=>
∀i:Hp,
CN (a.add i) 218 #[h,g] x fun g h=>
ax vT g vF fun g=>
JE y [g] h) (
JE y [vF] x))))→o [p] q)→
DR n fun g=>
ae .num .leq e m fun h=>
Br h (
lI 1 b m g fun h=>
lI 1 b c g fun g=>
∀i:Hp,
CN (a.add i) 218 #[h,g] n fun g h=>
Un .not g fun g=>
ax vT g vF fun g=>
JE o [g] h) (
JE o [vF] n)))→j [k] l)→
DR f fun g=>
ae .num .leq e d fun d=>
Br d (
lI 1 b e g fun d=>
lI 1 b c g fun b=>
∀c:Hp,
CN (a.add c) 218 #[d,b] f fun a b=>
ax vT a vF fun a=>
JE j [a] b) (
JE j [vF] f)
theorem qO(h:L220 g a0 a1 a2 a3 H R):sc g 220 #[a0,a1,a2,a3] H R:=
  sd (.n .e (.n (.h 0 [0,1,2,3,4,5,6,7,8,9,10,11,12,13,14,15] [] .e .e) (.n .e (.n (.n (.h 0 [10] [0,1,11] (.n (.h 1 [43] [0,1,10,11] (.h 1 [] [] (hr 0 [] 0 3 (.h 2 [3] [] (hr 0 [] 4 10 .e) (hr 0 [] 4 9 (.h 3 [13] [] .e .e)))) .e) .e) .e) .e) .e) (.n (.n (.h 0 [11] [0,1,10] (.n (.h 1 [60] [0,1,10,11] (.h 1 [] [] (hr 0 [] 0 3 (.h 2 [3] [] (hr 0 [] 4 11 .e) (hr 0 [] 4 10 (.h 3 [14] [] .e .e)))) .e) .e) .e) .e) .e) (.n (.n .e (.n (.n (.h 0 [0,1,2,3,4,5,6,7,8,9,10,11,12,13,14,15] [] .e .e) .e) .e)) (.n (.h 0 [0,1,2,3,4,5,6,7,8,9,10,11,12,13,14,15] [] .e .e) (.n .e (.n .e (.n (.n (.h 0 [10,11] [0,1] (.n (.n (.n (.h 0 [10] [0,1,11] (.n (.h 1 [112] [0,1,10,11] (.h 1 [] [] (hr 0 [] 0 3 (.h 2 [3] [] (hr 0 [] 4 10 .e) (hr 0 [] 4 9 (.h 3 [13] [] .e .e)))) .e) .e) .e) .e) .e) (.n (.n (.h 0 [11] [0,1,10] (.n (.h 1 [129] [0,1,10,11] (.h 1 [] [] (hr 0 [] 0 3 (.h 2 [3] [] (hr 0 [] 4 11 .e) (hr 0 [] 4 10 (.h 3 [14] [] .e .e)))) .e) .e) .e) .e) .e) (.n .e (.n (.h 0 [0,1,2,3,4,5,6,7,8,9,10,11,12,13,14,15] [] .e .e) .e)))) .e) .e) .e) (.n (.h 0 [0,1,2,3,4,5,6,7,8,9,10,11,12,13,14,15] [] .e .e) .e))))))))))) Tryz.func220 h
def L222:Y1:=
fun _ a b c=>
∀d:Jt,(∀e f:Value,∀g:Hp,(∀_:Fr,
∀h:Jt,(∀i j:Value,∀k:Hp,(∀_:Fr,
∀l:Jt,(∀m n:Value,∀o:Hp,(∀_:Fr,
bt .u8 m fun p=>
zN (.string (ByteArray.mk #[0,1,2,2,3,3,3,3,4,4,4,4,4,4,4,4,5,5,5,5,5,5,5,5,5,5,5,5,5,5,5,5,6,6,6,6,6,6,6,6,6,6,6,6,6,6,6,6,6,6,6,6,6,6,6,6,6,6,6,6,6,6,6,6,7,7,7,7,7,7,7,7,7,7,7,7,7,7,7,7,7,7,7,7,7,7,7,7,7,7,7,7,7,7,7,7,7,7,7,7,7,7,7,7,7,7,7,7,7,7,7,7,7,7,7,7,7,7,7,7,7,7,7,7,7,7,7,7,8,8,8,8,8,8,8,8,8,8,8,8,8,8,8,8,8,8,8,8,8,8,8,8,8,8,8,8,8,8,8,8,8,8,8,8,8,8,8,8,8,8,8,8,8,8,8,8,8,8,8,8,8,8,8,8,8,8,8,8,8,8,8,8,8,8,8,8,8,8,8,8,8,8,8,8,8,8,8,8,8,8,8,8,8,8,8,8,8,8,8,8,8,8,8,8,8,8,8,8,8,8,8,8,8,8,8,8,8,8,8,8,8,8,8,8,8,8,8,8,8,8,8,8,8,8,8,8])) p fun p=>
bt .i64 p fun p=>
lA n p fun p=>
rt c p o)→l [m,n] o)→
ae .num .geq i (wi 256) fun c=>
Br c (
ae .num .shr i (wi 8) fun c=>
lA j (iv 8) fun m=>
JE l [c,m] k) (
JE l [i,j] k))→h [i,j] k)→
ae .num .geq e (wi 65536) fun c=>
Br c (
ae .num .shr e (wi 16) fun c=>
lA f (iv 16) fun i=>
JE h [c,i] g) (
JE h [e,f] g))→d [e,f] g)→
ae .num .geq a (wi 4294967296) fun c=>
Br c (
ae .num .shr a (wi 32) fun c=>
JE d [c,(iv 32)] b) (
JE d [a,(iv 0)] b)
theorem qN(h:L222 g a0 H R):sc g 222 #[a0] H R:=
  sd (.n .e (.h 1 [0,2] [] .e (.h 1 [0,2] [] .e (.h 1 [0,2] [] .e .e)))) Tryz.func222 h
def L243:Y4:=
fun a b c d e f g=>
CR g a 210 #[b,c] f fun f h=>
Un .not f fun f=>
Br f (
rt g (iv 2) h) (
∀f:Jt,(∀i:Value,∀j:Hp,(∀_:Fr,
Br i (
rt g (iv 3) j) (
∀k:Jt,(∀l:Value,∀m:Hp,(∀_:Fr,
Br l (
rt g (iv 4) m) (
rt g (iv 0) m))→k [l] m)→
DR j fun l=>
lN d e fun m=>
Br m (
lM 6 b l fun m=>
lI 1 m c l fun c=>
∀m:Hp,
CN (a.add m) 319 #[b,d] j fun m n=>
aS n l∧
∀o:Hp,
CN (a.add o) 319 #[b,e] n fun n o=>
aS o l∧
C6 m n fun l=>
ae .num .geq c l fun c=>
ax vT c vF fun c=>
JE k [c] o) (
JE k [vF] j)))→f [i] j)→
lC 0 b fun c=>
CR g a 197 #[c,d] h fun c d=>
Un .not c fun c=>
Split c false (
lC 0 b fun b=>
CR g a 197 #[b,e] d fun a b=>
Un .not a fun a=>
ax vF vT a fun a=>
JE f [a] b) (
ax vT vT undef fun a=>
JE f [a] d))
theorem qM(h:L243 g a0 a1 a2 a3 H R):sc g 243 #[a0,a1,a2,a3] H R:=
  sd (.n .e (.n (.n (.n .e (.n .e (.h 1 [14] [0,1,2,3] .e (.n .e (.h 1 [29] [] (.h 1 [] [] (hr 0 [] 0 3 (.h 2 [3] [] (hr 0 [] 4 9 (hr 0 [] 14 2 (.h 0 [13] [] (hr 0 [] 16 5 .e) .e))) (hr 0 [] 4 15 (hr 3 [] 19 2 .e)))) .e) .e))))) .e) .e)) Tryz.func243 h
def L244:Y4:=
fun a b c d e f g=>
lE d e fun h=>
Br h (
rt g (tP d vT) f) (
lC 0 b fun b=>
aj 1 b fun b=>
Ld f b fun b=>
Build Tryz.prog 226 [(0,c),(1,d),(2,e)] fun c=>
CR g a 320 #[b,c] f fun a b=>
lX a fun a c=>
rt g (tP a c) b)
theorem qL(h:L244 g a0 a1 a2 a3 H R):sc g 244 #[a0,a1,a2,a3] H R:=
  sd .e Tryz.func244 h
def L245:Y2:=
fun a b c d e=>
DR d fun f=>
lM 0 b f fun g=>
lM 0 b f fun b=>
CN a 196 #[g] d fun d g=>
aS g f∧
lA d c fun c=>
CN a 321 #[b] g fun a b=>
aS b f∧
ae .num .leq c a fun a=>
rt e a b
theorem qK(h:L245 g a0 a1 H R):sc g 245 #[a0,a1] H R:=
  sd (.n .e (.n (.h 0 [0,1,2,3,5,7,8,9,10,4,6,11,12,13] [] .e .e) .e)) Tryz.func245 h
def L246:Y2:=
fun a b c d e=>
dR d (.cells (Value.cells c) 226 (0,0)) fun c d=>
DR d fun f=>
lM 0 b f fun g=>
aB 3 f (pt c) fun h=>
CN a 322 #[g,h] d fun d g=>
aS g f∧
lX d fun d _=>
∃(f:Jt) (h:Mt),JE f [] g∧∀g:Hp,f [] g→∀_:Fr,
bt .i64 d fun i=>
lM 2 b g fun j=>
bM j fun j=>
ae .num .geq i j fun i=>
Br i (
lM 2 b g fun i=>
an Tryz.prog 135 1 [(0,(Value.int .i32 0))] g fun j k=>
App Tryz.prog 21 1 4 (Value.int .i32 0) k i j fun i j=>
lC 2 b fun k=>
St 1 j k i fun i=>
lM 3 b i fun j=>
an Tryz.prog 135 1 [(0,(Value.int .i32 0))] i fun i k=>
App Tryz.prog 21 1 4 (Value.int .i32 0) k j i fun i j=>
lC 3 b fun k=>
St 1 j k i fun i=>
av f h [] i [] g) (
DR g fun f=>
lM 2 b f fun h=>
lM 3 b f fun f=>
ah 1 h d fun h=>
St 1 g h (Value.int .i32 0) fun g=>
ah 1 f d fun f=>
St 1 g f (Value.int .i32 0) fun f=>
lD 1 (pt c) f fun g=>
CR e a 300 #[b,g] f fun _ f=>
lD 2 (pt c) f fun g=>
CR e a 300 #[b,g] f fun _ f=>
DR f fun g=>
lM 1 b g fun b=>
aB 3 g (pt c) fun c=>
CN a 302 #[b,c,d] f fun _ a=>
rt e d a)
theorem qJ(h:L246 g a0 a1 H R):sc g 246 #[a0,a1] H R:=
  sd (.n .e (.n (.h 0 [0,1,2,3,4,5,6,7,8,9,10] [] .e .e) (.n (.n (.h 0 [] [0,3,5] .e .e) .e) (.n (.h 0 [0,1,2,3,4,5,6,7,8,9,10,11,12,13] [] .e .e) (.n .e (.n .e (.n (.h 0 [0,1,2,3,4,5,6] [] .e .e) .e))))))) Tryz.func246 h
def L247:Y4:=
fun a b c _ d e f=>
DR e fun g=>
Ld g d fun d=>
CN a 248 #[b] e fun b e=>
aS e g∧
ae .num .mul (bi 2) b fun b=>
CN a 248 #[c] e fun a c=>
aS c g∧
lA b a fun a=>
ae .num .shr d a fun a=>
ae .num .and a (bi 1) fun a=>
lE a (bi 1) fun a=>
rt f a c
theorem qI(h:L247 g a0 a1 a2 a3 H R):sc g 247 #[a0,a1,a2,a3] H R:=
  sd (.n .e (.n (.h 0 [0,1,4,2,3,5,6,7,8,9,10] [] .e .e) .e)) Tryz.func247 h
def L248:Y1:=
fun _ a b c=>
Br a (
rt c (bi 1) b) (
rt c (bi 0) b)
theorem qH(h:L248 g a0 H R):sc g 248 #[a0] H R:=
  sd .e Tryz.func248 h
def L249:Y2:=
fun a b c d e=>
lW d #[(iv 0),(ui 0),(ui 0)] 226 fun d f=>
ae .ptr .eql b (.pointer none) fun g=>
Br g (
Build Tryz.prog 226 [] fun g=>
St 3 f (pt d) g fun g=>
aB 3 g (pt d) fun h=>
rt e (tP h (iv 10)) g) (
lC 0 b fun g=>
CR e a 197 #[g,c] f fun f g=>
Un .not f fun f=>
Br f (
Build Tryz.prog 226 [] fun f=>
St 3 g (pt d) f fun f=>
aB 3 f (pt d) fun h=>
rt e (tP h (iv 3)) f) (
lC 0 b fun b=>
CR e a 287 #[b,c] g fun a b=>
St 3 b (pt d) a fun a=>
aB 3 a (pt d) fun b=>
rt e (tP b (iv 0)) a))
theorem qG(h:L249 g a0 a1 H R):sc g 249 #[a0,a1] H R:=
  sd .e Tryz.func249 h
def L250:Y3:=
fun a b c d e f=>
Ld e b fun b=>
Ld e c fun g=>
Ld e d fun h=>
CR f a 251 #[b,g,h] e fun a b=>
lX a fun a e=>
St 1 b c a fun a=>
St 1 a d e fun a=>
rt f (.tuple #[]) a
theorem oO(h:L250 g a0 a1 a2 H R):jG Tryz.prog g 250 #[a0,a1,a2] H R:=
 z8 (hn:=.e) Tryz.func250 h (by kernel_rfl)
def L251:Y3:=
fun a b c d e f=>
lE c (ui 0) fun g=>
lO g (fun g=>
lE c (ui 1) fun h=>
(lV e h g)) fun g=>
lM 2 b e fun h=>
bM h fun i=>
∃(j:Jt) (k:Mt),JE j [(Value.bool g),(iv 0)] e∧∀e g:Value,∀l:Hp,j [e,g] l→∀_:Fr,
lL g i fun i=>
Br i (
∀i:Jt,(∀m:Value,∀n:Hp,(∀_:Fr,
lA g (iv 1) fun o=>
av j k [m,o] n [e,g] l)→i [m] n)→
lI 1 h g l fun g=>
lE g c fun h=>
lU h (fun h=>
Un .not e fun j=>
(lV l j h)) fun h=>
lU (Value.bool h) (fun h=>
lE d (iv 0) fun j=>
(lV l j h)) fun h=>
Br (Value.bool h) (
JE i [vT] l) (
lM 0 b l fun h=>
CR f a 142 #[h,g] l fun _ g=>
JE i [e] g)) (
lC 2 b fun g=>
St 1 l g (.slice none 0 0) fun g=>
∀h:Jt,(∀i:Hp,(∀_:Fr,
rt f (tP c (iv 0)) i)→h [] i)→
lN d (iv 0) fun i=>
Br i (
rt f (tP (ui 0) d) g) (
Un .not e fun d=>
Br d (
rt f (tP (ui 0) (iv 8)) g) (
lE c (ui 0) fun d=>
lO d (fun d=>
lE c (ui 1) fun e=>
(lV g e d)) fun d=>
Br (Value.bool d) (
lM 0 b g fun b=>
CR f a 141 #[b,c] g fun _ a=>
JE h [] a) (
JE h [] g))))
theorem qF(h:L251 g a0 a1 a2 H R):sc g 251 #[a0,a1,a2] H R:=
  sd (.n .e (.n (.h 0 [] [1] .e .e) (.n (.n .e (.n (.h 0 [8,22] [0,1,2,20,21] (.n .e (.n .e (.h 1 [8] [0,1,2,20,21,22] (.n (.n .e (.n (.n (.h 0 [] [1] .e .e) .e) .e)) .e) .e))) .e) .e)) (.n .e (.h 1 [] [1] (.n (hN 4 (.n (.h 0 [] [1] .e .e) .e)) .e) .e))))) Tryz.func251 h
def L252:Y5:=
fun a b c d e f g h=>
dR g (.cells (Value.cells b) 236 (0,0)) fun b g=>
Ld g c fun i=>
aB 3 g (pt b) fun j=>
fy Tryz.prog 236 (ui 0) true g i j fun i=>
lX i fun i j=>
Br j (
rt h (tP i (iv 0)) g) (
Ld g d fun i=>
aB 3 g (pt b) fun j=>
CR h a 253 #[i,j] g fun g i=>
Ld i d fun j=>
CR h a 254 #[j,g] i fun i j=>
lL i (iv 0) fun k=>
Br k (
Ld j e fun e=>
dy 3 1 (pt b) (iv 0) fun k=>
Ld j k fun k=>
lE k (ui 1) fun k=>
dy 3 1 (pt b) (iv 1) fun l=>
Ld j l fun l=>
lE l (ui 1) fun l=>
dy 3 1 (pt b) (iv 2) fun m=>
Ld j m fun m=>
lE m (ui 1) fun m=>
bj Tryz.prog a e #[k,l,m] j (fun e k=>
Br e (
rt h (tP (ui 1) (iv 0)) k) (
rt h (tP (ui 0) (iv 0)) k)) (kL h)) (
DR j fun e=>
aB 3 e (pt b) fun k=>
aB 3 e (pt b) fun l=>
lW j #[(ui 0),(ui 0),(ui 0)] 236 fun j m=>
lW m #[(ui 0),(ui 0),(ui 0)] 236 fun m n=>
∀_:Hp,
St 3 n (pt j) k fun k=>
aS k e∧
∀_:Hp,
St 3 k (pt m) l fun e=>
bM g fun k=>
∃(l:Jt) (n:Mt),JE l [(iv 0)] e∧∀e:Value,∀o:Hp,l [e] o→∀_:Fr,
lL e k fun k=>
Br k (
∀k:Jt,(∀p:Hp,(∀_:Fr,
lA e (iv 1) fun q=>
av l n [q] p [e] o)→k [] p)→
ah 3 g e fun g=>
aB 3 o g fun g=>
lQ 3 o #[(iv 0),(ui 0),(ui 0)] 226 g fun g l=>
lD 0 (pt g) l fun n=>
lE n i fun n=>
Br n (
DR l fun n=>
lD 1 (pt g) n fun p=>
lD 2 (pt g) n fun g=>
dy 3 1 (pt j) e fun q=>
St 1 l q p fun p=>
aS p n∧
dy 3 1 (pt m) e fun e=>
St 1 p e g fun e=>
JE k [] e) (
JE k [] l)) (
Ld o f fun e=>
aB 3 o (pt j) fun g=>
bj Tryz.prog a e #[g] o (fun e g=>
lX e fun e j=>
lN j (iv 0) fun k=>
Br k (
rt h (tP (ui 0) j) g) (
Ld g f fun f=>
aB 3 g (pt m) fun j=>
bj Tryz.prog a f #[j] g (fun f g=>
lX f fun f j=>
lN j (iv 0) fun k=>
Br k (
rt h (tP (ui 0) j) g) (
Ld g d fun d=>
CR h a 255 #[d,i,e,f] g fun a d=>
lX a fun a e=>
∀f:Jt,(∀g:Hp,(∀_:Fr,
rt h (tP a e) g)→f [] g)→
lE e (iv 0) fun e=>
Br e (
Ld d c fun c=>
aB 3 d (pt b) fun b=>
fk Tryz.prog 236 d c b a fun a=>
JE f [] a) (
JE f [] d))) (kL h))) (kL h))))
theorem kP(h:L252 g a0 a1 a2 a3 a4 H R):sc g 252 #[a0,a1,a2,a3,a4] H R:=
  sd (hN 5 (.n (.h 1 [] [] (hr 0 [] 0 2 (hr 1 [] 2 2 (hr 0 [] 2 4 .e))) .e) (.n (.n .e (.n (.h 0 [51] [1,2,4,5,11,12,13,49,50] (.n .e (.n .e (.h 1 [] [1,2,4,5,11,12,13,49,50,51] (.n (.n .e (.n .e (.n (.h 0 [0,1,2,3,4,5,6,7,8,9] [] .e .e) .e))) .e) .e))) .e) .e)) (hN 5 (.h 1 [] [17,19] .e .e))))) Tryz.func252 h
def L253:Y2:=
fun a b c d e=>
dR d (.cells (Value.cells c) 236 (0,0)) fun c d=>
aB 3 d (pt c) fun c=>
∃(f:Jt) (g:Mt),JE f [(.slice none 0 0),(iv 0)] d∧∀d h:Value,∀i:Hp,f [d,h] i→∀_:Fr,
lL h (iv 3) fun j=>
Br j (
dn Tryz.prog a (nO Tryz.f253 4 0) (ev (fun j=>cond (Nat.beq j 10) c (cond (Nat.beq j 11) h (undef)))) i fun c=>
lM 0 b i fun b=>
CR e a 249 #[b,c] i fun a b=>
lX a fun a _=>
lQ 3 b #[(iv 0),(ui 0),(ui 0)] 226 a fun a b=>
aB 3 b (pt a) fun a=>
an Tryz.prog 309 1 [(0,a)] b fun a b=>
App Tryz.prog 226 3 16 (.agg #[(iv 0),(ui 0),(ui 0)]) b d a fun a b=>
lA h (iv 1) fun c=>
av f g [a,c] b [d,h] i) (
rt e d i)
theorem qE(h:L253 g a0 a1 H R):sc g 253 #[a0,a1] H R:=
  sd (.n .e (.n .e (.n (.n .e (.n (.h 0 [5,11] [0,10] .e .e) .e)) .e))) Tryz.func253 h
def L254:Y2:=
fun _ a b c d=>
bM b fun e=>
∃(f:Jt) (g:Mt),JE f [(iv (-1)),(iv 0)] c∧∀c h:Value,∀i:Hp,f [c,h] i→∀_:Fr,
lL h e fun e=>
Br e (
∀e:Jt,(∀j:Value,∀k:Hp,(∀_:Fr,
lA h (iv 1) fun l=>
av f g [j,l] k [c,h] i)→e [j] k)→
ah 3 b h fun b=>
aB 3 i b fun b=>
lQ 3 i #[(iv 0),(ui 0),(ui 0)] 226 b fun b f=>
lD 0 (pt b) f fun g=>
ae .num .geq g (iv 0) fun g=>
lU g (fun g=>
lL c (iv 0) fun h=>
cW h false (fun h=>
lM 1 a f fun j=>
lD 0 (pt b) f fun k=>
lI 1 j k f fun j=>
lM 1 a f fun a=>
lI 1 a c f fun a=>
lL j a fun a=>
(lV f a h)) (fun h=>vT=Value.bool h) fun h=>∀_:Fr,
(lV f (Value.bool h) g)) fun g=>
Br (Value.bool g) (
lD 0 (pt b) f fun a=>
JE e [a] f) (
JE e [c] f)) (
rt d c i)
theorem qD(h:L254 g a0 a1 H R):sc g 254 #[a0,a1] H R:=
  sd (.n .e (.n .e (.n (.n .e (.n (.h 0 [5,10] [0,8,9] (.n .e (.n .e (.h 1 [5] [0,8,9,10] .e .e))) .e) .e)) .e))) Tryz.func254 h
def L255:Y4:=
fun a b c d e f g=>
lE d e fun h=>
Br h (
rt g (tP d (iv 0)) f) (
lM 0 b f fun h=>
CR g a 175 #[h,c,d,e] f fun f h=>
lX f fun f i=>
∀j:Jt,(∀k:Hp,(∀_:Fr,
rt g (tP (ui 0) i) k)→j [] k)→
lE i (iv 0) fun k=>
Br k (
lM 2 b h fun k=>
an Tryz.prog 194 1 [(0,f)] h fun l m=>
App Tryz.prog 110 1 4 (ui 0) m k l fun k l=>
lC 2 b fun m=>
St 1 l m k fun k=>
rt g (tP f (iv 0)) k) (
lE i (iv 8) fun f=>
Br f (
lM 0 b h fun b=>
CR g a 323 #[b,c,d,e] h fun a b=>
lX a fun a c=>
Br c (
rt g (tP a (iv 0)) b) (
JE j [] b)) (
JE j [] h)))
theorem kO(h:L255 g a0 a1 a2 a3 H R):sc g 255 #[a0,a1,a2,a3] H R:=
  sd (hN 3 (.h 1 [] [11] .e .e)) Tryz.func255 h
variable {g:Gh} {a0 a1 a2 a3 a4 a5 a6 a7 a8 a9 AQ AP CY CX CW CV:Value} {H:Hp} {R:Rt}
def L286:Y2:=
fun a b c d e=>
lW d #[(iv 0),(ui 0),(ui 0)] 226 fun d f=>
ae .ptr .eql b (.pointer none) fun g=>
Br g (
Build Tryz.prog 226 [] fun g=>
St 3 f (pt d) g fun g=>
aB 3 g (pt d) fun h=>
rt e (tP h (iv 10)) g) (
CR e a 356 #[b,c] f fun a f=>
Un .not a fun a=>
Br a (
Build Tryz.prog 226 [] fun a=>
St 3 f (pt d) a fun a=>
aB 3 a (pt d) fun g=>
rt e (tP g (iv 3)) a) (
lM 1 b f fun a=>
ah 5 a c fun a=>
aj 0 a fun a=>
aB 3 f a fun a=>
St 3 f (pt d) a fun a=>
aB 3 a (pt d) fun b=>
rt e (tP b (iv 0)) a))
theorem qC(h:L286 g a0 a1 H R):sc g 286 #[a0,a1] H R:=
  sd .e Tryz.func286 h
def L287:Y2:=
fun a b c d e=>
lW d #[(iv 0),(ui 0),(ui 0)] 226 fun d f=>
lM 0 b f fun b=>
CR e a 286 #[b,c] f fun a b=>
lX a fun a _=>
lQ 3 b #[(iv 0),(ui 0),(ui 0)] 226 a fun a b=>
aB 3 b (pt a) fun a=>
St 3 b (pt d) a fun a=>
aB 3 a (pt d) fun b=>
rt e b a
theorem qB(h:L287 g a0 a1 H R):sc g 287 #[a0,a1] H R:=
  sd .e Tryz.func287 h
def L288:Y2:=
fun a b c d e=>
dR d (.cells (Value.cells c) 226 (0,0)) fun c d=>
lD 0 (pt c) d fun f=>
CR e a 357 #[b,f] d fun a d=>
lN a (iv 0) fun f=>
Br f (
rt e a d) (
lM 0 b d fun a=>
lD 0 (pt c) d fun f=>
lI 1 a f d fun a=>
aB 3 d (pt c) fun f=>
fy Tryz.prog 226 (ui 0) true d a f fun a=>
lX a fun _ a=>
Un .not a fun a=>
Br a (
rt e (iv 10) d) (
DR d fun a=>
lM 0 b a fun b=>
lD 0 (pt c) a fun f=>
lI 1 b f a fun b=>
aB 3 a (pt c) fun c=>
iz Tryz.prog 226 d b c fun b=>
aS b a∧
rt e (iv 0) b))
theorem qA(h:L288 g a0 a1 H R):sc g 288 #[a0,a1] H R:=
  sd (hN 3 (.n (.h 0 [0,1,2,3,4,5,6,7,8,9] [] .e .e) .e)) Tryz.func288 h
def L289:Y2:=
fun a b c d e=>
ae .ptr .eql b (.pointer none) fun f=>
Br f (
rt e (iv 10) d) (
CR e a 358 #[b,c] d fun a d=>
lN a (iv 0) fun f=>
Br f (
rt e a d) (
lM 1 b d fun a=>
Build Tryz.prog 228 [] fun f=>
ah 5 a c fun a=>
St 5 d a f fun a=>
lM 2 b a fun d=>
an Tryz.prog 194 1 [(0,c)] a fun a c=>
App Tryz.prog 110 1 4 (ui 0) c d a fun a c=>
lC 2 b fun d=>
St 1 c d a fun a=>
lM 3 b a fun c=>
lS c (iv 1) fun c=>
lC 3 b fun b=>
St 1 a b c fun a=>
rt e (iv 0) a))
theorem qz(h:L289 g a0 a1 H R):sc g 289 #[a0,a1] H R:=
  sd .e Tryz.func289 h
def L290:Y5:=
fun a b c d e f g h=>
Ld g c fun i=>
fU (.int .u32) (wi 0) true g i b fun i=>
lX i fun i j=>
Br j (
rt h i g) (
Ld g d fun d=>
CR h a 202 #[d,b] g fun d g=>
lQ 3 g #[(iv 0),(ui 0),(ui 0)] 226 d fun d g=>
DR g fun i=>
Ld i e fun e=>
aB 3 i (pt d) fun j=>
Ld i f fun k=>
lD 1 (pt d) i fun l=>
Ld i f fun f=>
lD 2 (pt d) i fun d=>
∀m:Hp,
bj Tryz.prog (a.add m) k #[l] g (fun g k=>
aS k i∧
∀l:Hp,
bj Tryz.prog (a.add l) f #[d] k (fun d f=>
aS f i∧
∀i:Hp,
bj Tryz.prog (a.add i) e #[j,g,d] f (fun a d=>
Ld d c fun c=>
aN (.int .u32) d c b a fun b=>
rt h a b) tW) tW) tW)
theorem kN(h:L290 g a0 a1 a2 a3 a4 H R):sc g 290 #[a0,a1,a2,a3,a4] H R:=
  sd (hN 3 (.n (.h 1 [] [] (hr 0 [1] 0 5 (hr 0 [1] 6 3 (.h 0 [5] [1] (hr 0 [1] 9 3 .e) .e))) .e) .e)) Tryz.func290 h
def L300:Y2:=
fun _ a b c d=>
lG b (ui 1) fun e=>
Br e (
lM 2 a c fun a=>
lI 1 a b c fun e=>
lA e (Value.int .i32 1) fun e=>
ah 1 a b fun a=>
St 1 c a e fun a=>
rt d (.tuple #[]) a) (
rt d (.tuple #[]) c)
theorem qy(h:L300 g a0 a1 H R):sc g 300 #[a0,a1] H R:=
  sd .e Tryz.func300 h
def L302:Y3:=
fun a b c d e f=>
dR e (.cells (Value.cells c) 226 (0,0)) fun c e=>
lD 0 (pt c) e fun g=>
CR f a 357 #[b,g] e fun a e=>
lN a (iv 0) fun g=>
Br g (
rt f a e) (
lM 0 b e fun a=>
lD 0 (pt c) e fun g=>
lI 1 a g e fun a=>
aB 3 e (pt c) fun g=>
fy Tryz.prog 226 (ui 0) true e a g fun a=>
lX a fun _ a=>
Br a (
rt f (iv 11) e) (
DR e fun a=>
lM 0 b a fun b=>
lD 0 (pt c) a fun g=>
lI 1 b g a fun b=>
aB 3 a (pt c) fun a=>
fk Tryz.prog 226 e b a d fun a=>
rt f (iv 0) a))
theorem qx(h:L302 g a0 a1 a2 H R):sc g 302 #[a0,a1,a2] H R:=
  sd (hN 3 (.n (.h 0 [0,1,2,3,4,5,6,7,8,9,10] [] .e .e) .e)) Tryz.func302 h
def L303:Y4:=
fun a b c d e f g=>
∃(h:Jt) (i:Mt),JE h [c] f∧∀c:Value,∀f:Hp,h [c] f→∀_:Fr,
ae .num .mul (iv 2) c fun j=>
lA j (iv 1) fun j=>
ae .num .geq j d fun k=>
Br k (
rt g (.tuple #[]) f) (
∀k:Jt,(∀l:Value,∀m:Hp,(∀_:Fr,
DR m fun n=>
lA e c fun o=>
lI 1 b o n fun o=>
lA e l fun p=>
lI 1 b p n fun n=>
CN a 218 #[o,n] m fun n o=>
Un .not n fun n=>
Br n (
rt g (.tuple #[]) o) (
DR o fun g=>
lA e c fun n=>
lA e l fun p=>
lA e l fun q=>
lI 1 b q g fun q=>
lA e c fun r=>
lI 1 b r g fun g=>
ah 1 b n fun n=>
St 1 o n q fun n=>
ah 1 b p fun o=>
St 1 n o g fun g=>
av h i [l] g [c] f))→k [l] m)→
∀c:Jt,(∀g:Value,∀h:Hp,(∀_:Fr,
Br g (
lA j (iv 1) fun i=>
JE k [i] h) (
JE k [j] h))→c [g] h)→
DR f fun g=>
lA j (iv 1) fun h=>
lL h d fun d=>
Br d (
lA e j fun d=>
lI 1 b d g fun d=>
lA e j fun e=>
lA e (iv 1) fun e=>
lI 1 b e g fun b=>
∀e:Hp,
CN (a.add e) 218 #[d,b] f fun a b=>
ax vT a vF fun a=>
JE c [a] b) (
JE c [vF] f))
theorem qw(h:L303 g a0 a1 a2 a3 H R):sc g 303 #[a0,a1,a2,a3] H R:=
  sd (.n .e (.n (.h 0 [8] [0,2,3] (.n (.n .e (.n .e (.h 1 [9] [0,2,3,8] (.h 1 [36] [0,2,3,8,9] (.h 1 [] [] (hr 0 [] 0 4 (.h 2 [4] [] (hr 0 [] 5 15 .e) (hr 0 [] 5 14 (.h 3 [19] [] .e .e)))) .e) .e) (.n (.n (.h 0 [0,1,2,3,4,5,6,7,8,9,10,11,12,13] [] .e .e) .e) (.n (.h 0 [0,1,2,3,4,5,6,7,8,9,10,11,12,13,14,15,16,17,18,19,20,21,22,23] [] .e .e) .e))))) .e) .e) .e)) Tryz.func303 h
def L304:Y1:=
fun a b c d=>
bt .u64 b fun b=>
CR d a 154 #[b] c fun a b=>
ae .num .shl (wi 1) a fun a=>
rt d a b
theorem qv(h:L304 g a0 H R):sc g 304 #[a0] H R:=
  sd .e Tryz.func304 h
def L305:Y1:=
fun _ a b c=>
DR b fun d=>
Nil a fun e=>
Ld d e fun e=>
Nil a fun f=>
Ld d f fun d=>
ae .num .shl d (wi 13) fun d=>
ae .num .xor e d fun d=>
Nil a fun e=>
St 1 b e d fun b=>
DR b fun d=>
Nil a fun e=>
Ld d e fun e=>
Nil a fun f=>
Ld d f fun d=>
ae .num .shr d (wi 7) fun d=>
ae .num .xor e d fun d=>
Nil a fun e=>
St 1 b e d fun b=>
DR b fun d=>
Nil a fun e=>
Ld d e fun e=>
Nil a fun f=>
Ld d f fun d=>
ae .num .shl d (wi 17) fun d=>
ae .num .xor e d fun d=>
Nil a fun e=>
St 1 b e d fun b=>
Nil a fun a=>
Ld b a fun a=>
rt c a b
theorem qu(h:L305 g a0 H R):sc g 305 #[a0] H R:=
  sd (.n .e (.n (.h 0 [0,1,2,3,4,5,6,7,8,9] [] .e .e) (.n (.h 0 [0,1,2,3,4,5,6,7,8,9] [] .e .e) (.n (.h 0 [0,1,2,3,4,5,6,7,8,9] [] .e .e) .e)))) Tryz.func305 h
def L306:Y3:=
fun a b c d e f=>
lS c (iv 1) fun g=>
lA c (iv 1) fun h=>
CR f a 307 #[b,g,c,h,d] e fun a b=>
rt f a b
theorem qt(h:L306 g a0 a1 a2 H R):sc g 306 #[a0,a1,a2] H R:=
  sd .e Tryz.func306 h
def L307:Y5:=
fun a b c d e f g h=>
CR h a 369 #[b,c,d,f] g fun c d=>
lX c fun c g=>
CR h a 369 #[b,g,e,f] d fun d e=>
lX d fun d _=>
CR h a 369 #[b,c,d,f] e fun a b=>
lX a fun _ a=>
rt h a b
theorem qs(h:L307 g a0 a1 a2 a3 a4 H R):sc g 307 #[a0,a1,a2,a3,a4] H R:=
  sd .e Tryz.func307 h
def L308:Y1:=
fun _ a b c=>
lN a a fun a=>
rt c a b
theorem qq(h:L308 g a0 H R):sc g 308 #[a0] H R:=
  sd .e Tryz.func308 h
def L319:Y2:=
fun a b c d e=>
lC 0 b fun f=>
CR e a 287 #[f,c] d fun a c=>
lQ 3 c #[(iv 0),(ui 0),(ui 0)] 226 a fun a c=>
lD 0 (pt a) c fun d=>
ae .num .geq d (iv 0) fun d=>
Br d (
lM 6 b c fun d=>
lD 0 (pt a) c fun a=>
lI 1 d a c fun a=>
rt e a c) (
lM 4 b c fun a=>
rt e a c)
theorem qp(h:L319 g a0 a1 H R):sc g 319 #[a0,a1] H R:=
  sd .e Tryz.func319 h
def L320:Y2:=
fun a b c d e=>
dR d (.cells (Value.cells c) 226 (0,0)) fun c d=>
lD 0 (pt c) d fun f=>
CR e a 357 #[b,f] d fun a d=>
lN a (iv 0) fun a=>
Br a (
rt e (tP (ui 0) vF) d) (
lM 0 b d fun a=>
lD 0 (pt c) d fun b=>
lI 1 a b d fun a=>
aB 3 d (pt c) fun b=>
fy Tryz.prog 226 (ui 0) true d a b fun a=>
lX a fun a b=>
rt e (tP a b) d)
theorem qo(h:L320 g a0 a1 H R):sc g 320 #[a0,a1] H R:=
  sd .e Tryz.func320 h
def L321:Y1:=
fun _ a b c=>
ae .ptr .eql a (.pointer none) fun d=>
Br d (
rt c (iv 0) b) (
lM 0 a b fun a=>
rt c a b)
theorem qn(h:L321 g a0 H R):sc g 321 #[a0] H R:=
  sd .e Tryz.func321 h
def L322:Y2:=
fun a b c d e=>
dR d (.cells (Value.cells c) 226 (0,0)) fun c d=>
ae .ptr .eql b (.pointer none) fun f=>
Br f (
rt e (tP (ui 0) (iv 10)) d) (
aB 3 d (pt c) fun f=>
CR e a 368 #[b,f] d fun a d=>
lN a (iv 0) fun f=>
Br f (
rt e (tP (ui 0) a) d) (
lM 2 b d fun a=>
bM a fun a=>
lG a (iv 0) fun f=>
Br f (
lM 2 b d fun f=>
lS a (iv 1) fun g=>
lI 1 f g d fun f=>
lM 2 b d fun g=>
lS a (iv 1) fun a=>
dm 1 g none (some a) fun a=>
lC 2 b fun g=>
St 1 d g a fun a=>
DR a fun g=>
lM 1 b g fun h=>
aB 3 g (pt c) fun g=>
Build Tryz.prog 228 [(0,g),(1,vT)] fun g=>
ah 5 h f fun h=>
St 5 a h g fun a=>
lM 3 b a fun g=>
lA g (iv 1) fun g=>
lC 3 b fun h=>
St 1 a h g fun a=>
rt e (tP f (iv 0)) a) (
lM 1 b d fun a=>
bM a fun a=>
lM 0 b d fun f=>
ae .num .geq a f fun a=>
Br a (
rt e (tP (ui 0) (iv 9)) d) (
DR d fun a=>
lM 1 b a fun f=>
aB 3 a (pt c) fun c=>
Build Tryz.prog 228 [(0,c),(1,vT)] fun c=>
an Tryz.prog 222 1 [(0,c)] d fun c d=>
aS d a∧
App Tryz.prog 228 5 24 (.agg #[(iv 0),(ui 0),(ui 0),vF,(bi 0)]) d f c fun c d=>
aS d a∧
lC 1 b fun a=>
St 1 d a c fun a=>
lM 3 b a fun c=>
lA c (iv 1) fun c=>
lC 3 b fun d=>
St 1 a d c fun a=>
lM 1 b a fun b=>
bM b fun b=>
lS b (iv 1) fun b=>
bt .u32 b fun b=>
rt e (tP b (iv 0)) a))))
theorem qm(h:L322 g a0 a1 H R):sc g 322 #[a0,a1] H R:=
  sd (hN 3 (.n (.n .e (.n .e (.n (.n .e (.n .e (.n (.h 0 [0,1,2,3,4,5,6,7,8] [] .e .e) .e))) .e))) (.n .e (.n (.h 0 [0,1,2,3,4,5,6,7,8,9,10,11] [] .e .e) .e)))) Tryz.func322 h
def L323:Y4:=
fun a b c d e f g=>
∀h:Jt,(∀i:Value,∀j:Hp,(∀_:Fr,
Br i (
rt g (tP (ui 0) vF) j) (
CR g a 244 #[b,c,d,e] j fun k l=>
lX k fun k m=>
rt g (tP k m) l))→h [i] j)→
ae .ptr .eql b (.pointer none) fun i=>
Split i false (
CR g a 243 #[b,c,d,e] f fun a b=>
lN a (iv 0) fun a=>
ax vF vT a fun a=>
JE h [a] b) (
ax vT vT undef fun a=>
JE h [a] f)
theorem qk(h:L323 g a0 a1 a2 a3 H R):sc g 323 #[a0,a1,a2,a3] H R:=
  sd (.n .e (.n (.h 1 [19] [0,1,2,3] .e .e) .e)) Tryz.func323 h
variable {g:Gh} {a0 a1 a2 a3 a4 a5 a6 a7 a8 a9 AQ AP CY CX CW CV:Value} {H:Hp} {R:Rt}
def L356:Y2:=
fun _ a b c d=>
bt .i64 b fun e=>
lM 1 a c fun f=>
bM f fun f=>
lL e f fun e=>
lU e (fun e=>
lM 1 a c fun a=>
ah 5 a b fun a=>
aj 3 a fun a=>
Ld c a fun a=>
(lV c a e)) fun e=>
rt d (Value.bool e) c
theorem qj(h:L356 g a0 a1 H R):sc g 356 #[a0,a1] H R:=
  sd (.n .e (.n (.h 0 [] [1] .e .e) .e)) Tryz.func356 h
def L357:Y2:=
fun _ a b c d=>
ae .ptr .eql a (.pointer none) fun e=>
Br e (
rt d (iv 10) c) (
lL b (iv 0) fun e=>
lO e (fun e=>
lM 0 a c fun a=>
bM a fun a=>
ae .num .geq b a fun a=>
(lV c a e)) fun e=>
Br (Value.bool e) (
rt d (iv 2) c) (
rt d (iv 0) c))
theorem qi(h:L357 g a0 a1 H R):sc g 357 #[a0,a1] H R:=
  sd (.n .e (.n (.n (.n .e (.n .e (.n (.h 0 [] [1] .e .e) .e))) .e) .e)) Tryz.func357 h
def L358:Y2:=
fun a b c d e=>
∀f:Jt,(∀g:Value,∀h:Hp,(∀_:Fr,
Br g (
rt e (iv 3) h) (
rt e (iv 0) h))→f [g] h)→
ae .num .leq c (ui 1) fun g=>
Split g false (
CR e a 356 #[b,c] d fun a b=>
Un .not a fun a=>
ax vF vT a fun a=>
JE f [a] b) (
ax vT vT undef fun a=>
JE f [a] d)
theorem qh(h:L358 g a0 a1 H R):sc g 358 #[a0,a1] H R:=
  sd (.n .e (.n (.h 1 [12] [] .e .e) .e)) Tryz.func358 h
def L368:Y2:=
fun a b c d e=>
dR d (.cells (Value.cells c) 226 (0,0)) fun c d=>
lD 0 (pt c) d fun f=>
lL f (iv 0) fun f=>
lO f (fun f=>
lD 0 (pt c) d fun g=>
ae .num .geq g (iv 64) fun g=>
(lV d g f)) fun f=>
Br (Value.bool f) (
rt e (iv 2) d) (
∀f:Jt,(∀g:Value,∀h:Hp,(∀_:Fr,
Br g (
rt e (iv 3) h) (
rt e (iv 0) h))→f [g] h)→
lD 1 (pt c) d fun g=>
CR e a 356 #[b,g] d fun d g=>
Un .not d fun d=>
Split d false (
lD 2 (pt c) g fun c=>
CR e a 356 #[b,c] g fun a b=>
Un .not a fun a=>
ax vF vT a fun a=>
JE f [a] b) (
ax vT vT undef fun a=>
JE f [a] g))
theorem qg(h:L368 g a0 a1 H R):sc g 368 #[a0,a1] H R:=
  sd (.n .e (.n (.n (.n (.h 0 [] [1] .e .e) (.n .e (.h 1 [14] [] .e .e))) .e) .e)) Tryz.func368 h
def L369:Y4:=
fun a b c d e f g=>
DR f fun h=>
lI 1 b d h fun i=>
lI 1 b c h fun b=>
CN a 218 #[i,b] f fun a b=>
Br a (
Nil e fun a=>
Ld b a fun a=>
lA a (iv 1) fun a=>
Nil e fun e=>
St 1 b e a fun a=>
rt g (tP d c) a) (
rt g (tP c d) b)
theorem qe(h:L369 g a0 a1 a2 a3 H R):sc g 369 #[a0,a1,a2,a3] H R:=
  sd (.n .e (.n (.n (.h 0 [0,1,2,3,4,5,6,7,8] [] .e .e) .e) .e)) Tryz.func369 h
end Go.Proofs
namespace Go.Sx
open Go
section
variable {P:Program} {g:Gh} {H:Hp}
theorem aX{f:FuncId}{args:Array Value}{C:Hp}{Q:Value→Hp→Prop}(h:∀g,aV P g f args C (aY Q)):Fc P f args C Q:=h
theorem Ld.q{b off:Nat}{c:Array Value}{T:TypeId}{fz:Nat×Nat}{v:Value}{k:Value→Prop}(h:k v)(hm:(b,Obj.cells c T fz)∈H:=by repeat (first|exact List.Mem.head _|apply List.Mem.tail|apply List.mem_append_right))(hc:c[off]? =some v:=by rfl):Ld H (.pointer (some ⟨b,off,none⟩)) k:=.mk hm hc h
theorem Ld.f{b o off:Nat}{c:Array Value}{T:TypeId}{fz:Nat×Nat}{v:Value}{k:Value→Prop}(h:k v)(hm:(b,Obj.cells c T fz)∈H:=by repeat (first|exact List.Mem.head _|apply List.Mem.tail|apply List.mem_append_right))(hc:c[o+off]? =some v:=by rfl):aj off (.pointer (some ⟨b,o,none⟩)) fun p=>Ld H p k:=.mk (.mk hm hc h)
theorem Ld.n{b o off:Nat}{c:Array Value}{T:TypeId}{fz:Nat×Nat}{v:Value}{k:Value→Prop}(h:k v)(hm:(b,Obj.cells c T fz)∈H:=by repeat (first|exact List.Mem.head _|apply List.Mem.tail|apply List.mem_append_right))(hc:c[o+off]? =some v:=by rfl):Nil (.pointer (some ⟨b,o,none⟩)) fun q=>aj off q fun p=>Ld H p k:=.ptr (.mk (.mk hm hc h))
theorem Ld.u{b o off:Nat}{c:Array Value}{T:TypeId}{fz:Nat×Nat}{v:Value}{k:Value→Prop}(hm:(b,Obj.cells c T fz)∈H)(h:k v)(hc:c[o+off]? =some v:=by rfl):aj off (.pointer (some ⟨b,o,none⟩)) fun p=>Ld H p k:=.mk (.mk hm hc h)
theorem Ld.v{b o off:Nat}{c:Array Value}{T:TypeId}{fz:Nat×Nat}{v:Value}{k:Value→Prop}(hm:(b,Obj.cells c T fz)∈H)(h:k v)(hc:c[o+off]? =some v:=by rfl):Nil (.pointer (some ⟨b,o,none⟩)) fun q=>aj off q fun p=>Ld H p k:=.ptr (.mk (.mk hm hc h))
theorem aB.q{b n:Nat}{r:List Value}{T:TypeId}{fz:Nat×Nat}{K:Value→Prop}(h:K (.agg r.toArray))(hm:(b,Obj.cells r.toArray T fz)∈H:=by repeat (first|exact List.Mem.head _|apply List.Mem.tail|apply List.mem_append_right))(hr:r.length=n:=by rfl):aB n H (.pointer (some ⟨b,0,none⟩)) K:=.whole hm hr h
theorem St.q{b n:Nat}{c:Array Value}{T:TypeId}{r:List Value}{H':Hp}{K:Hp→Prop}(h:K H')(hu:cv b (.cells c T (0,0)) (.cells r.toArray T (0,0)) H H':=by repeat (first|exact cv.head _|apply cv.tail|apply cv.cm))(hs:c.size=n:=by rfl)(hr:r.length=n:=by rfl)(h1:∀v∈r,v.oneCell'=true:=by simp[Value.oneCell']):
  St n H (.pointer (some ⟨b,0,none⟩)) (.agg r.toArray) K:=.whole hu hs hr h1 h
theorem St.p{b n:Nat}{c:Array Value}{T:TypeId}{r:List Value}{H':Hp}{K:Hp→Prop}(h1:∀v∈r,v.oneCell'=true)(h:K H')(hu:cv b (.cells c T (0,0)) (.cells r.toArray T (0,0)) H H':=by repeat (first|exact cv.head _|apply cv.tail|apply cv.cm))(hs:c.size=n:=by rfl)(hr:r.length=n:=by rfl):
  St n H (.pointer (some ⟨b,0,none⟩)) (.agg r.toArray) K:=.whole hu hs hr h1 h
section
variable {kd mW:IntKind} {a b:Nat} {k:Value→Prop}
theorem ae.dX(h:k (.int kd ((a+b:Nat):Int)))(hr:a+b<cO kd:=by first|(simp[cO];omega)|(simp only[cO];omega)|simp[cO]):ae .num .add (.int kd a) (.int kd b) k:=.CS hr h
theorem ae.inc(h:k (.int kd ((a+1:Nat):Int)))(hr:a+1<cO kd:=by first|(simp[cO];omega)|(simp only[cO];omega)|simp[cO]):ae .num .add (.int kd a) (.int kd 1) k:=.CS hr h
theorem ae.bp(h:k (.int kd ((a-b:Nat):Int)))(ha:a<cO kd:=by first|(simp[cO];omega)|(simp only[cO];omega)|simp[cO])(hb:b≤a:=by omega):ae .num .sub (.int kd a) (.int kd b) k:=.xG ha hb h
theorem ae.py(h:k (.int kd ((a*b:Nat):Int)))(hr:a*b<cO kd:=by first|(simp[cO];omega)|(simp only[cO];omega)|simp[cO]):ae .num .mul (.int kd a) (.int kd b) k:=.D5 hr h
theorem bt.q(h:k (.int kd (a:Int)))(ha:a<cO kd:=by first|(simp[cO];omega)|(simp only[cO];omega)|simp[cO]):bt kd (.int mW a) k:=.nat ha h
end
theorem Br.T{p:Prop}[Decidable p]{t f:Prop}(h:t)(hp:p:=by first|omega|decide|simp):Br (.bool (decide p)) t f:=.Fp hp h
theorem Br.F{p:Prop}[Decidable p]{t f:Prop}(h:f)(hp:¬p:=by first|omega|decide|simp):Br (.bool (decide p)) t f:=.CG hp h
theorem aa.fq{f:FuncId}{args:Array Value}{C H:Hp}{c:Hp→Hp}{Q:Value→Hp→Prop}{K:Value→Hp→Prop}{KP:List PanicEntry→Hp→Prop}(hc:Fc P f args C Q)
 (hk:∀v C',Q v C'→K v (c C'))(hh:aT C H c:=by repeat (first|exact aT.here|exact aT.left|apply aT.cons|apply aT.app)):aa P g f args H K KP:=.fn hh hc hk
theorem aa.rq{f:FuncId}{args:Array Value}{B H:Hp}{c:Hp→Hp}{Q:Value→Prop}{K:Value→Hp→Prop}{KP:List PanicEntry→Hp→Prop}(hc:Rd P f args B Q)
 (hk:∀v,Q v→K v H)(hh:aT B H c:=by repeat (first|exact aT.here|exact aT.left|apply aT.cons|apply aT.app)):aa P g f args H K KP:=.rd hh hc hk
theorem aa.eq{f:FuncId}{args:Array Value}{B H:Hp}{c:Hp→Hp}{v:Value}{K:Value→Hp→Prop}{KP:List PanicEntry→Hp→Prop}(hc:Rd P f args B (· =v))
 (hk:K v H)(hh:aT B H c:=by repeat (first|exact aT.here|exact aT.left|apply aT.cons|apply aT.app)):aa P g f args H K KP:=.rd hh hc fun _ h=>by subst h;exact hk
theorem aa.eh{f:FuncId}{args:Array Value}{B H:Hp}{c:Hp→Hp}{v:Value}{K:Value→Hp→Prop}{KP:List PanicEntry→Hp→Prop}(hh:aT B H c)(hc:Rd P f args B (· =v))
 (hk:K v H):aa P g f args H K KP:=.rd hh hc fun _ h=>by subst h;exact hk
theorem Ext.two{x y:Value}{k:Value→Value→Prop}(h:k x y):Ext 0 (.tuple #[x,y]) fun a=>Ext 1 (.tuple #[x,y]) fun b=>k a b:=.mk rfl (.mk rfl h)
end
end Go.Sx
namespace aq
open dQ
theorem iG{x u v:Nat}{b c:Bool}(h:u≠v):aQ (aQ x u b) v c=aQ (aQ x v c) u b:=by
 apply Nat.eq_of_testBit_eq;intro k
 rw[ak,ak,ak,ak]
 by_cases e1:k=u<;>by_cases e2:k=v
 ·exact absurd (e1.symm.trans e2) h
 ·simp[e1,h]
 ·simp[e2,Ne.symm h]
 ·simp[e1,e2]
structure Nd where
 v:Nat
 lo:Nat
 hi:Nat
deriving DecidableEq
abbrev cP:=Nat→Option Nd
abbrev Fn:=Nat→Bool
def live(N:cP)(r:Nat):Prop:=r<2∨∃d,N r=some d
def dep(n:Nat)(af:Nat→Nat)(N:cP)(r:Nat):Nat:=match N r with|some d=>af d.v|none=>n
structure WF(n:Nat)(af:Nat→Nat)(N:cP):Prop where
 two:∀{r d},N r=some d→2≤r
 var:∀{r d},N r=some d→d.v<n
 ne:∀{r d},N r=some d→d.lo≠d.hi
 lo:∀{r d},N r=some d→live N d.lo∧af d.v<dep n af N d.lo
 hi:∀{r d},N r=some d→live N d.hi∧af d.v<dep n af N d.hi
 uq:∀{r r' d},N r=some d→N r'=some d→r=r'
structure kX(n:Nat)(af:Nat→Nat):Prop where
 lt:∀v,v<n→af v<n
 inj:∀u v,u<n→v<n→af u=af v→u=v
structure Interp(N:cP)(S:Nat→Fn):Prop where
 zero:∀x,S 0 x=false
 one:∀x,S 1 x=true
 node:∀{r d},N r=some d→∀x,S r x=if x.testBit d.v then S d.hi x else S d.lo x
variable {n:Nat} {af:Nat→Nat} {N:cP} {S:Nat→Fn}
theorem aO{r:Nat}(h:N r=none):dep n af N r=n:=by unfold dep;rw[h]
theorem ag{r:Nat}{d:Nd}(h:N r=some d):dep n af N r=af d.v:=by unfold dep;rw[h]
theorem WF.fj(h:WF n af N)(hl:kX n af)(r:Nat):dep n af N r≤n:=by
 cases e:N r with
 |none=>rw[aO e];exact Nat.le_refl _
 |some d=>rw[ag e];exact Nat.le_of_lt (hl.lt _ (h.var e))
theorem WF.const(h:WF n af N){r:Nat}(hr:r<2):N r=none:=by
 cases e:N r with
 |none=>rfl
 |some d=>have:=h.two e;omega
theorem WF.indep(h:WF n af N)(hl:kX n af)(hi:Interp N S):∀(k r:Nat),n-dep n af N r≤k→live N r→∀v,v<n→af v<dep n af N r→∀x b,S r (aQ x v b)=S r x:=by
 intro k
 induction k with
 |zero=>
  intro r hk hr v hv hlt x b
  rcases hr with hr|⟨d,hd⟩
  ·have:r=0∨r=1:=by omega
   rcases this with rfl|rfl
   ·rw[hi.zero,hi.zero]
   ·rw[hi.one,hi.one]
  ·have h1:=hl.lt _ (h.var hd)
   rw[ag hd]at hk;omega
 |succ k ih=>
  intro r hk hr v hv hlt x b
  rcases hr with hr|⟨d,hd⟩
  ·have:r=0∨r=1:=by omega
   rcases this with rfl|rfl
   ·rw[hi.zero,hi.zero]
   ·rw[hi.one,hi.one]
  ·rw[ag hd]at hk hlt
   have h1:=hl.lt _ (h.var hd)
   obtain⟨l1,l2⟩:=h.lo hd
   obtain⟨m1,m2⟩:=h.hi hd
   have hne:d.v≠v:=fun e=>by rw[e]at hlt;omega
   rw[hi.node hd,hi.node hd,ak,if_neg hne,ih d.lo (by omega) l1 v hv (by omega),ih d.hi (by omega) m1 v hv (by omega)]
theorem WF.bB(h:WF n af N)(hl:kX n af)(hi:Interp N S){r:Nat}(hr:live N r){v:Nat}(hv:v<n)(hlt:af v<dep n af N r)(x:Nat)(b:Bool):S r (aQ x v b)=S r x:=
 h.indep hl hi _ r (Nat.le_refl _) hr v hv hlt x b
theorem WF.child(h:WF n af N)(hl:kX n af)(hi:Interp N S){r:Nat}{d:Nd}(hd:N r=some d)(x:Nat)(b:Bool):S r (aQ x d.v b)=S (if b then d.hi else d.lo) x:=by
 obtain⟨l1,l2⟩:=h.lo hd
 obtain⟨m1,m2⟩:=h.hi hd
 rw[hi.node hd,ak,if_pos rfl]
 cases b
 ·simp only[Bool.false_eq_true,if_false];exact h.bB hl hi l1 (h.var hd) l2 x false
 ·simp only[if_true];exact h.bB hl hi m1 (h.var hd) m2 x true
theorem WF.canon(h:WF n af N)(hl:kX n af)(hi:Interp N S):∀(k r r':Nat),(n-dep n af N r)+(n-dep n af N r')≤k→live N r→live N r'→(∀x,S r x=S r' x)→r=r':=by
 intro k
 induction k with
 |zero=>
  intro r r' hk hr hr' he
  have hc:∀{r},n-dep n af N r=0→live N r→r<2:=by
   intro r hk hr
   rcases hr with hr|⟨d,hd⟩
   ·exact hr
   ·have h1:=hl.lt _ (h.var hd)
    rw[ag hd]at hk;omega
  have h1:=hc (by omega) hr
  have h2:=hc (by omega) hr'
  have e0:=he 0
  have:r=0∨r=1:=by omega
  have h3:r'=0∨r'=1:=by omega
  rcases this with rfl|rfl<;>rcases h3 with rfl|rfl<;>simp[hi.zero,hi.one]at e0<;>rfl
 |succ k ih=>
  have wX:∀r r',(n-dep n af N r)+(n-dep n af N r')≤k+1→live N r'→(∀x,S r x=S r' x)→∀d,N r=some d→af d.v<dep n af N r'→False:=by
   intro r r' hk hr' he d hd hlt
   obtain⟨l1,l2⟩:=h.lo hd
   obtain⟨m1,m2⟩:=h.hi hd
   have hv:=h.var hd
   have h1:=hl.lt _ hv
   have d1:=h.fj hl d.lo
   have d2:=h.fj hl d.hi
   have d3:=h.fj hl r'
   rw[ag hd]at hk
   have a1:d.lo=r':=ih d.lo r' (by omega) l1 hr' fun x=>by
    have:=h.child hl hi hd x false
    simp only[Bool.false_eq_true,if_false]at this
    rw[←this,he,h.bB hl hi hr' hv hlt]
   have a2:d.hi=r':=ih d.hi r' (by omega) m1 hr' fun x=>by
    have:=h.child hl hi hd x true
    simp only[if_true]at this
    rw[←this,he,h.bB hl hi hr' hv hlt]
   exact h.ne hd (a1.trans a2.symm)
  intro r r' hk hr hr' he
  rcases hr with hr|⟨d,hd⟩
  ·rcases hr' with hr'|⟨d',dj⟩
   ·have e0:=he 0
    have:r=0∨r=1:=by omega
    have h3:r'=0∨r'=1:=by omega
    rcases this with rfl|rfl<;>rcases h3 with rfl|rfl<;>simp[hi.zero,hi.one]at e0<;>rfl
   ·refine(wX r' r (by omega) (.inl hr) (fun x=>(he x).symm) d' dj ?_).elim
    rw[aO (h.const hr)];exact hl.lt _ (h.var dj)
  ·rcases Nat.lt_trichotomy (af d.v) (dep n af N r')with hlt|heq|hgt
   ·exact(wX r r' hk hr' he d hd hlt).elim
   ·rcases hr' with hr'|⟨d',dj⟩
    ·rw[aO (h.const hr')]at heq
     have:=hl.lt _ (h.var hd);omega
    ·rw[ag dj]at heq
     have hv:=hl.inj _ _ (h.var hd) (h.var dj) heq
     obtain⟨l1,l2⟩:=h.lo hd
     obtain⟨m1,m2⟩:=h.hi hd
     obtain⟨G8,Jn⟩:=h.lo dj
     obtain⟨G6,Jm⟩:=h.hi dj
     have h1:=hl.lt _ (h.var hd)
     have d1:=h.fj hl d.lo
     have d2:=h.fj hl d.hi
     have JM:=h.fj hl d'.lo
     have JL:=h.fj hl d'.hi
     rw[ag hd,ag dj]at hk
     have c1:=fun x=>h.child hl hi hd x false
     have c2:=fun x=>h.child hl hi hd x true
     have GG:=fun x=>h.child hl hi dj x false
     have GF:=fun x=>h.child hl hi dj x true
     simp only[Bool.false_eq_true,if_false,if_true]at c1 c2 GG GF
     have a1:d.lo=d'.lo:=ih d.lo d'.lo (by omega) l1 G8 fun x=>by rw[←c1,←GG,he,hv]
     have a2:d.hi=d'.hi:=ih d.hi d'.hi (by omega) m1 G6 fun x=>by rw[←c2,←GF,he,hv]
     have:d=d':=by cases d;cases d';simp_all
     subst this
     exact h.uq hd dj
   ·rcases hr' with hr'|⟨d',dj⟩
    ·rw[aO (h.const hr')]at hgt
     have:=hl.lt _ (h.var hd);omega
    ·rw[ag dj]at hgt
     refine(wX r' r (by omega) (.inr ⟨d,hd⟩) (fun x=>(he x).symm) d' dj ?_).elim
     rw[ag hd];exact hgt
theorem WF.same(h:WF n af N)(hl:kX n af)(hi:Interp N S){r r':Nat}(hr:live N r)(hr':live N r')(he:∀x,S r x=S r' x):r=r':=h.canon hl hi _ r r' (Nat.le_refl _) hr hr' he
end aq
namespace aq
open dQ
variable {n:Nat} {af:Nat→Nat} {N:cP} {S:Nat→Fn} {ord:List Nat}
def cU(g:Fn)(v:Nat):Prop:=∃x,g (aQ x v false)≠g (aQ x v true)
def fs(ord:List Nat)(F:Fn→Prop):Nat→Fn→Prop
 |0,g=>F g
 |l+1,g=>∃f,fs ord F l f∧∃b,g=fun x=>f (aQ x (ord.getD l 0) b)
def aA(n:Nat)(ord:List Nat)(F:Fn→Prop)(g:Fn):Prop:=∃l,l<n∧fs ord F l g∧cU g (ord.getD l 0)
structure Ord(n:Nat)(af:Nat→Nat)(ord:List Nat):Prop where
 len:ord.length=n
 ik:∀l,l<n→ord.getD l 0<n∧af (ord.getD l 0)=l
theorem Ord.of(h:Ord n af ord)(hl:kX n af){v:Nat}(hv:v<n):ord.getD (af v) 0=v:=by
 obtain⟨h1,h2⟩:=h.ik _ (hl.lt v hv)
 exact hl.inj _ _ h1 hv h2
def Fs(S:Nat→Fn)(R:Nat→Prop)(g:Fn):Prop:=∃r,R r∧g=S r
def A(N:cP)(af:Nat→Nat)(n:Nat)(R:Nat→Prop):Nat→Nat→Prop
 |0,r=>R r
 |l+1,r=>(A N af n R l r∧dep n af N r≠l)∨∃p d,A N af n R l p∧N p=some d∧af d.v=l∧(r=d.lo∨r=d.hi)
variable {R:Nat→Prop}
theorem nk(h:WF n af N)(hR:∀r,R r→live N r):∀l r,A N af n R l r→live N r∧l≤dep n af N r
 |0,r,ha=>⟨hR r ha,Nat.zero_le _⟩
 |l+1,r,ha=>by
  rcases ha with⟨h1,h2⟩|⟨p,d,h1,h2,h3,h4⟩
  ·have:=nk h hR l r h1
   exact⟨this.1,by omega⟩
  ·rcases h4 with rfl|rfl
   ·have:=h.lo h2;exact⟨this.1,by omega⟩
   ·have:=h.hi h2;exact⟨this.1,by omega⟩
theorem rN{r:Nat}:∀k l,A N af n R l r→l+k≤dep n af N r→A N af n R (l+k) r
 |0,l,ha,_=>ha
 |k+1,l,ha,hk=>by
  have h1:=rN k l ha (by omega)
  have h2:dep n af N r≠l+k:=by omega
  exact .inl ⟨h1,h2⟩
def Reach(N:cP)(R:Nat→Prop):Prop:=∀r d,N r=some d→R r∨∃p e,N p=some e∧(e.lo=r∨e.hi=r)
theorem De(h:WF n af N)(hr:Reach N R):∀k r d,N r=some d→af d.v≤k→A N af n R (af d.v) r:=by
 intro k
 induction k with
 |zero=>
  intro r d hd hk
  rcases hr r d hd with h1|⟨p,e,h1,h2⟩
  ·rw[show af d.v=0 by omega];exact h1
  ·have:=h.lo h1
   have h3:=h.hi h1
   rcases h2 with rfl|rfl
   ·rw[ag hd]at this;omega
   ·rw[ag hd]at h3;omega
 |succ k ih=>
  intro r d hd hk
  rcases hr r d hd with h1|⟨p,e,h1,h2⟩
  ·have:=rN (N:=N) (af:=af) (n:=n) (R:=R) (r:=r) (af d.v) 0 h1 (by rw[ag hd];omega)
   rwa [Nat.zero_add]at this
  ·have hlt:af e.v<af d.v:=by
    have:=h.lo h1
    have h3:=h.hi h1
    rcases h2 with rfl|rfl
    ·rw[ag hd]at this;omega
    ·rw[ag hd]at h3;omega
   have ha:=ih p e h1 (by omega)
   have hb:A N af n R (af e.v+1) r:=.inr ⟨p,e,ha,h1,rfl,by rcases h2 with rfl|rfl;exact .inl rfl;exact .inr rfl⟩
   have:=rN (af d.v-(af e.v+1)) _ hb (by rw[ag hd];omega)
   rwa [show af e.v+1+(af d.v-(af e.v+1))=af d.v by omega]at this
theorem AK(h:WF n af N)(hl:kX n af)(ho:Ord n af ord)(hi:Interp N S)(hR:∀r,R r→live N r):∀l,l≤n→∀g,fs ord (Fs S R) l g↔∃r,A N af n R l r∧g=S r
 |0,_,g=>Iff.rfl
 |l+1,A4,g=>by
  obtain⟨v1,v2⟩:=ho.ik l A4
  have ih:=AK h hl ho hi hR l (by omega)
  constructor
  ·rintro⟨f,hf,b,rfl⟩
   obtain⟨r,ha,rfl⟩:=(ih f).1 hf
   obtain⟨hlv,hle⟩:=nk h hR l r ha
   by_cases e:dep n af N r=l
   ·rcases hlv with hc|⟨d,hd⟩
    ·rw[aO (h.const hc)]at e;omega
    ·rw[ag hd]at e
     have hv:d.v=ord.getD l 0:=hl.inj _ _ (h.var hd) v1 (by omega)
     refine⟨if b then d.hi else d.lo,.inr ⟨r,d,ha,hd,e,by cases b<;>simp⟩,?_⟩
     funext x
     rw[←hv];exact h.child hl hi hd x b
   ·refine⟨r,.inl ⟨ha,e⟩,?_⟩
    funext x
    exact h.bB hl hi hlv v1 (by omega) x b
  ·rintro⟨r,ha,rfl⟩
   rcases ha with⟨h1,h2⟩|⟨p,d,h1,h2,h3,h4⟩
   ·obtain⟨hlv,hle⟩:=nk h hR l r h1
    refine⟨S r,(ih _).2 ⟨r,h1,rfl⟩,false,?_⟩
    funext x
    exact(h.bB hl hi hlv v1 (by omega) x false).symm
   ·have hv:d.v=ord.getD l 0:=hl.inj _ _ (h.var h2) v1 (by omega)
    rcases h4 with rfl|rfl
    ·refine⟨S p,(ih _).2 ⟨p,h1,rfl⟩,false,?_⟩
     funext x
     rw[←hv];exact(h.child hl hi h2 x false).symm
    ·refine⟨S p,(ih _).2 ⟨p,h1,rfl⟩,true,?_⟩
     funext x
     rw[←hv];exact(h.child hl hi h2 x true).symm
theorem ja(h:WF n af N)(hl:kX n af)(ho:Ord n af ord)(hi:Interp N S)(hR:∀r,R r→live N r)(hr:Reach N R)(g:Fn):aA n ord (Fs S R) g↔∃r d,N r=some d∧g=S r:=by
 constructor
 ·rintro⟨l,A4,hf,x,hx⟩
  obtain⟨v1,v2⟩:=ho.ik l A4
  obtain⟨r,ha,rfl⟩:=(AK h hl ho hi hR l (by omega) g).1 hf
  obtain⟨hlv,hle⟩:=nk h hR l r ha
  by_cases e:dep n af N r=l
  ·rcases hlv with hc|⟨d,hd⟩
   ·rw[aO (h.const hc)]at e;omega
   ·exact⟨r,d,hd,rfl⟩
  ·exact absurd (by rw[h.bB hl hi hlv v1 (by omega),h.bB hl hi hlv v1 (by omega)]) hx
 ·rintro⟨r,d,hd,rfl⟩
  have hv:=h.var hd
  have hlt:=hl.lt _ hv
  refine⟨af d.v,hlt,(AK h hl ho hi hR _ (by omega) _).2 ⟨r,De h hr _ r d hd (Nat.le_refl _),rfl⟩,?_⟩
  rw[ho.of hl hv]
  refine Classical.byContradiction fun hno=>h.ne hd (h.same hl hi (h.lo hd).1 (h.hi hd).1 fun x=>?_)
  have c1:=h.child hl hi hd x false
  have c2:=h.child hl hi hd x true
  simp only[Bool.false_eq_true,if_false,if_true]at c1 c2
  rw[←c1,←c2]
  exact Classical.byContradiction fun hne=>hno ⟨x,hne⟩
def xg(P:Fn→Prop)(k:Nat):Prop:=∃l:List Fn,l.Nodup∧l.length=k∧∀g,P g↔g∈l
theorem xg.congr{P Q:Fn→Prop}{k:Nat}(h:xg P k)(e:∀g,P g↔Q g):xg Q k:=let ⟨l,h1,h2,h3⟩:=h;⟨l,h1,h2,fun g=>(e g).symm.trans (h3 g)⟩
theorem c6{α:Type}:∀{l l':List α},l.Nodup→(∀x∈l,x∈l')→l.length≤l'.length
 | [],l',_,_=>Nat.zero_le _
 |x::l,l',hn,hs=>by
  obtain⟨h1,h2⟩:=List.nodup_cons.1 hn
  obtain⟨a,b,rfl⟩:=List.append_of_mem (hs x (by simp))
  have:=c6 (l':=a++b) h2 fun y hy=>by
   have:=hs y (by simp[hy])
   rcases List.mem_append.1 this with h|h
   ·exact List.mem_append_left _ h
   ·rcases List.mem_cons.1 h with rfl|h
    ·exact absurd hy h1
    ·exact List.mem_append_right _ h
  simp at this⊢;omega
theorem tI(h:WF n af N)(hl:kX n af)(hi:Interp N S){dom:List Nat}(hd:dom.Nodup)(hm:∀r,r∈dom↔∃d,N r=some d):xg (fun g=>∃r d,N r=some d∧g=S r) dom.length:=by
 refine⟨dom.map S,?_,by simp,fun g=>?_⟩
 ·refine List.pairwise_map.2 (hd.imp_of_mem fun{a b} ha hb hne heq=>hne ?_)
  exact h.same hl hi (.inr ((hm a).1 ha)) (.inr ((hm b).1 hb)) fun x=>by rw[heq]
 ·rw[List.mem_map]
  constructor
  ·rintro⟨r,d,h1,rfl⟩;exact⟨r,(hm r).2 ⟨d,h1⟩,rfl⟩
  ·rintro⟨r,h1,rfl⟩;obtain⟨d,h2⟩:=(hm r).1 h1;exact⟨r,d,h2,rfl⟩
end aq
namespace aq
open dQ
def up{α:Type}(N:Nat→α)(r:Nat)(o:α):Nat→α:=fun s=>if s=r then o else N s
@[simp] theorem ay{α:Type}{N:Nat→α}{r:Nat}{o:α}:up N r o r=o:=if_pos rfl
theorem aC{α:Type}{N:Nat→α}{r s:Nat}{o:α}(h:s≠r):up N r o s=N s:=if_neg h
def rO(T:Nd→Option Nat)(d:Nd)(o:Option Nat):Nd→Option Nat:=fun e=>if e=d then o else T e
@[simp] theorem gU{T:Nd→Option Nat}{d:Nd}{o:Option Nat}:rO T d o d=o:=if_pos rfl
theorem mK{T:Nd→Option Nat}{d e:Nd}{o:Option Nat}(h:e≠d):rO T d o e=T e:=if_neg h
def e1:Option Nd→Nat→Nat
 |none,_=>0
 |some d,r=>(if d.lo=r then 1 else 0)+(if d.hi=r then 1 else 0)
theorem dG(d:Nd)(r:Nat):e1 (some d) r=(if d.lo=r then 1 else 0)+(if d.hi=r then 1 else 0):=rfl
def bN(N:cP)(r:Nat):Nat→Nat
 |0=>0
 |k+1=>bN N r k+e1 (N k) r
def fQ(N:cP):Nat→Nat
 |0=>0
 |k+1=>fQ N k+(if(N k).isSome then 1 else 0)
theorem mj{N:cP}{s r:Nat}{o:Option Nd}:∀{k},(s<k→bN (up N s o) r k+e1 (N s) r=bN N r k+e1 o r)∧(k≤s→bN (up N s o) r k=bN N r k)
 |0=>⟨fun h=>by omega,fun _=>rfl⟩
 |k+1=>by
  obtain⟨i1,i2⟩:=mj (N:=N) (s:=s) (r:=r) (o:=o) (k:=k)
  refine⟨fun h=>?_,fun h=>?_⟩
  ·rw[bN,bN]
   by_cases e:s=k
   ·subst e;rw[ay,i2 (Nat.le_refl _)];omega
   ·have:=i1 (by omega);rw[aC (fun h=>e h.symm)];omega
  ·rw[bN,bN,i2 (by omega),aC (by omega)]
theorem ou{N:cP}{s r k:Nat}{o:Option Nd}(h:s<k):bN (up N s o) r k+e1 (N s) r=bN N r k+e1 o r:=mj.1 h
theorem kE{N:cP}{s:Nat}{o:Option Nd}:∀{k},(s<k→fQ (up N s o) k+(if(N s).isSome then 1 else 0)=fQ N k+(if o.isSome then 1 else 0))∧(k≤s→fQ (up N s o) k=fQ N k)
 |0=>⟨fun h=>by omega,fun _=>rfl⟩
 |k+1=>by
  obtain⟨i1,i2⟩:=kE (N:=N) (s:=s) (o:=o) (k:=k)
  refine⟨fun h=>?_,fun h=>?_⟩
  ·rw[fQ,fQ]
   by_cases e:s=k
   ·subst e;rw[ay,i2 (Nat.le_refl _)];omega
   ·have:=i1 (by omega);rw[aC (fun h=>e h.symm)];omega
  ·rw[fQ,fQ,i2 (by omega),aC (by omega)]
theorem fi{N:cP}{r:Nat}:∀{k},bN N r k=0→∀s,s<k→∀d,N s=some d→d.lo≠r∧d.hi≠r
 |0,_,s,hs,_,_=>by omega
 |k+1,h,s,hs,d,hd=>by
  rw[bN]at h
  by_cases e:s=k
  ·subst e
   rw[hd,dG]at h
   constructor
   ·intro h1;rw[if_pos h1]at h;omega
   ·intro h1;rw[if_pos h1]at h;omega
  ·exact fi (k:=k) (by omega) s (by omega) d hd
theorem iS{N:cP}{r:Nat}:∀{k},0<bN N r k→∃s d,s<k∧N s=some d∧(d.lo=r∨d.hi=r)
 |0,h=>by simp[bN]at h
 |k+1,h=>by
  rw[bN]at h
  by_cases hk:0<bN N r k
  ·obtain⟨s,d,h1,h2,h3⟩:=iS hk;exact⟨s,d,by omega,h2,h3⟩
  ·cases hd:N k with
   |none=>rw[hd]at h;simp[e1]at h;omega
   |some d=>
    refine⟨k,d,by omega,hd,?_⟩
    rw[hd,dG]at h
    by_cases h1:d.lo=r
    ·exact .inl h1
    ·by_cases h2:d.hi=r
     ·exact .inr h2
     ·rw[if_neg h1,if_neg h2]at h;omega
theorem ow{N:cP}{r:Nat}:∀k,bN N r k≤2*k
 |0=>Nat.le_refl _
 |k+1=>by
  have:=ow (N:=N) (r:=r) k
  rw[bN]
  have:e1 (N k) r≤2:=by
   cases N k with
   |none=>simp[e1]
   |some d=>rw[dG];split<;>split<;>omega
  omega
theorem oD(N:cP):∀k,((List.range k).filter fun r=>(N r).isSome).length=fQ N k
 |0=>rfl
 |k+1=>by
  rw[List.range_succ,List.filter_append,List.length_append,oD N k,fQ]
  congr 1
  cases h:N k<;>simp[h]
structure Kd where
 n:Nat
 cap:Nat
 used:Nat
 N:cP
 T:Nd→Option Nat
 us:List Nat
 ho:List Nat
def Kd.hold(K:Kd)(r:Nat):Nat:=K.ho.getD r 0
def Kd.use(K:Kd)(r:Nat):Nat:=K.us.getD r 0
structure gi(K:Kd)(S:Nat→Fn)(E:Nat→Prop)(P:Nat→Nat):Prop where
 two:∀{r d},K.N r=some d→2≤r∧r<K.cap
 var:∀{r d},K.N r=some d→d.v<K.n
 ne:∀{r d},K.N r=some d→d.lo≠d.hi
 lo:∀{r d},K.N r=some d→live K.N d.lo
 hi:∀{r d},K.N r=some d→live K.N d.hi
 int:Interp K.N S
 kV:∀d r,K.T d=some r↔K.N r=some d∧¬E r
 use:∀{r d},K.N r=some d→K.use r=bN K.N r K.cap+(if K.hold r=0 then 0 else 1)+P r
 len:K.us.length=K.ho.length
 fit:∀{r d},K.N r=some d→r<K.us.length
 held:∀r,K.hold r≠0→∃d,K.N r=some d
 mx:∀r,K.hold r≤65535
 room:K.used=2+fQ K.N K.cap
 cap:K.used≤K.cap∧K.cap≤1048576
variable {K:Kd} {S:Nat→Fn} {E:Nat→Prop} {P:Nat→Nat}
theorem jC{N:cP}{r s:Nat}{d:Nd}(h:live N s):live (up N r (some d)) s:=by
 rcases h with h|⟨e,h⟩
 ·exact .inl h
 ·by_cases e2:s=r
  ·subst e2;exact .inr ⟨d,ay⟩
  ·exact .inr ⟨e,by rw[aC e2];exact h⟩
theorem lZ{N:cP}{r s:Nat}(h:live N s)(hne:s≠r):live (up N r none) s:=by
 rcases h with h|⟨e,h⟩
 ·exact .inl h
 ·exact .inr ⟨e,by rw[aC hne];exact h⟩
def Pos(K:Kd):Prop:=∀r d,K.N r=some d→0<K.use r
theorem gi.less(h:gi K S E P){r:Nat}{cV:List Nat}(hP:0<P r)(hl:cV.length=K.us.length)(h1:cV.getD r 0+1=K.use r)(h2:∀s,s≠r→cV.getD s 0=K.use s):
  gi {K with us:=cV} S E (up P r (P r-1)) where
 two:=h.two
 var:=h.var
 ne:=h.ne
 lo:=h.lo
 hi:=h.hi
 int:=h.int
 kV:=h.kV
 use:=fun{s d} hd=>by
  have:=h.use hd
  show cV.getD s 0=bN K.N s K.cap+(if K.hold s=0 then 0 else 1)+up P r (P r-1) s
  by_cases e:s=r
  ·subst e
   rw[ay]
   omega
  ·rw[h2 s e,aC e];exact this
 len:=by show cV.length=_;rw[hl];exact h.len
 fit:=fun{s d} hd=>by show s<cV.length;rw[hl];exact h.fit hd
 held:=h.held
 mx:=h.mx
 room:=h.room
 cap:=h.cap
theorem gi.free(h:gi K S E P){r:Nat}{d:Nd}(hd:K.N r=some d)(hE:¬E r)(h0:K.use r=0):
  gi {K with N:=up K.N r none,T:=rO K.T d none,used:=K.used-1} S E (fun s=>P s+e1 (some d) s) where
 two:=fun{s e} hs=>by
  have hs':up K.N r none s=some e:=hs
  by_cases e2:s=r
  ·subst e2;rw[ay]at hs';cases hs'
  ·rw[aC e2]at hs';exact h.two hs'
 var:=fun{s e} hs=>by
  have hs':up K.N r none s=some e:=hs
  by_cases e2:s=r
  ·subst e2;rw[ay]at hs';cases hs'
  ·rw[aC e2]at hs';exact h.var hs'
 ne:=fun{s e} hs=>by
  have hs':up K.N r none s=some e:=hs
  by_cases e2:s=r
  ·subst e2;rw[ay]at hs';cases hs'
  ·rw[aC e2]at hs';exact h.ne hs'
 lo:=fun{s e} hs=>by
  have hs':up K.N r none s=some e:=hs
  by_cases e2:s=r
  ·subst e2;rw[ay]at hs';cases hs'
  ·rw[aC e2]at hs'
   have hu:=h.use hd
   exact lZ (h.lo hs') (fi (by omega) s (h.two hs').2 e hs').1
 hi:=fun{s e} hs=>by
  have hs':up K.N r none s=some e:=hs
  by_cases e2:s=r
  ·subst e2;rw[ay]at hs';cases hs'
  ·rw[aC e2]at hs'
   have hu:=h.use hd
   exact lZ (h.hi hs') (fi (by omega) s (h.two hs').2 e hs').2
 int:=⟨h.int.zero,h.int.one,fun{s e} hs x=>by
  have hs':up K.N r none s=some e:=hs
  by_cases e2:s=r
  ·subst e2;rw[ay]at hs';cases hs'
  ·rw[aC e2]at hs';exact h.int.node hs' x⟩
 kV:=fun e s=>by
  show rO K.T d none e=some s↔up K.N r none s=some e∧_
  by_cases e2:e=d
  ·subst e2
   rw[gU]
   constructor
   ·intro h;cases h
   ·rintro⟨h1,h2⟩
    by_cases e3:s=r
    ·subst e3;rw[ay]at h1;cases h1
    ·rw[aC e3]at h1
     have a:=(h.kV e s).2 ⟨h1,h2⟩
     have b:=(h.kV e r).2 ⟨hd,hE⟩
     rw[a]at b;cases b;exact absurd rfl e3
  ·rw[mK e2,h.kV]
   by_cases e3:s=r
   ·subst e3
    rw[ay]
    constructor
    ·rintro⟨h1,_⟩;rw[hd]at h1;cases h1;exact absurd rfl e2
    ·rintro⟨h1,_⟩;cases h1
   ·rw[aC e3]
 use:=fun{s e} hs=>by
  have hs':up K.N r none s=some e:=hs
  by_cases e2:s=r
  ·subst e2;rw[ay]at hs';cases hs'
  ·rw[aC e2]at hs'
   have hu:=h.use hs'
   have he:=ou (N:=K.N) (s:=r) (r:=s) (k:=K.cap) (o:=none) (h.two hd).2
   show K.use s=bN (up K.N r none) s K.cap+(if K.hold s=0 then 0 else 1)+(P s+e1 (some d) s)
   rw[hd]at he
   have:e1 none s=0:=rfl
   omega
 len:=h.len
 fit:=fun{s e} hs=>by
  have hs':up K.N r none s=some e:=hs
  by_cases e2:s=r
  ·subst e2;rw[ay]at hs';cases hs'
  ·rw[aC e2]at hs';exact h.fit hs'
 held:=fun s hs=>by
  obtain⟨e,he⟩:=h.held s hs
  have hne:s≠r:=fun e2=>by
   subst e2
   have hu:=h.use hd
   have hs':K.hold s≠0:=hs
   rw[if_neg hs']at hu;omega
  exact⟨e,by show up K.N r none s=_;rw[aC hne];exact he⟩
 mx:=h.mx
 room:=by
  have:=(kE (N:=K.N) (s:=r) (o:=none) (k:=K.cap)).1 (h.two hd).2
  have hr:=h.room
  rw[hd]at this
  show K.used-1=2+fQ (up K.N r none) K.cap
  simp at this;omega
 cap:=⟨by have:=h.cap.1;show K.used-1≤K.cap;omega,h.cap.2⟩
end aq
namespace aq
open dQ
variable {K:Kd} {S:Nat→Fn} {E:Nat→Prop} {P:Nat→Nat}
def ite(S:Nat→Fn)(d:Nd):Fn:=fun x=>if x.testBit d.v then S d.hi x else S d.lo x
theorem cS{N:cP}{r s:Nat}(h:live N s)(h2:2≤r)(hr:N r=none):s≠r:=fun e=>by
 subst e
 rcases h with h|⟨d,h⟩
 ·omega
 ·rw[hr]at h;cases h
theorem gi.lay(h:gi K S E P){r:Nat}{d:Nd}{cV bV:List Nat}(hr:K.N r=none)(h2:2≤r∧r<K.cap)(hv:d.v<K.n)(hne:d.lo≠d.hi)(hlo:live K.N d.lo)(hhi:live K.N d.hi)(hT:K.T d=none)(hE:¬E r)
 (hP:P r=0)(hro:K.used<K.cap)(hl:cV.length=bV.length)(hf:r<cV.length∧K.us.length≤cV.length)(u0:cV.getD r 0=0)(u1:∀s,2≤s→s≠r→cV.getD s 0=K.use s+e1 (some d) s)(o0:bV.getD r 0=0)(o1:∀s,s≠r→bV.getD s 0=K.hold s):
  gi {K with N:=up K.N r (some d),T:=rO K.T d (some r),used:=K.used+1,us:=cV,ho:=bV} (up S r (ite S d)) E P where
 two:=fun{s e} hs=>by
  have hs':up K.N r (some d) s=some e:=hs
  by_cases e2:s=r
  ·subst e2;exact h2
  ·rw[aC e2]at hs';exact h.two hs'
 var:=fun{s e} hs=>by
  have hs':up K.N r (some d) s=some e:=hs
  by_cases e2:s=r
  ·subst e2;rw[ay]at hs';cases hs';exact hv
  ·rw[aC e2]at hs';exact h.var hs'
 ne:=fun{s e} hs=>by
  have hs':up K.N r (some d) s=some e:=hs
  by_cases e2:s=r
  ·subst e2;rw[ay]at hs';cases hs';exact hne
  ·rw[aC e2]at hs';exact h.ne hs'
 lo:=fun{s e} hs=>by
  have hs':up K.N r (some d) s=some e:=hs
  by_cases e2:s=r
  ·subst e2;rw[ay]at hs';cases hs';exact jC hlo
  ·rw[aC e2]at hs';exact jC (h.lo hs')
 hi:=fun{s e} hs=>by
  have hs':up K.N r (some d) s=some e:=hs
  by_cases e2:s=r
  ·subst e2;rw[ay]at hs';cases hs';exact jC hhi
  ·rw[aC e2]at hs';exact jC (h.hi hs')
 int:=⟨fun x=>by rw[aC (by omega)];exact h.int.zero x,fun x=>by rw[aC (by omega)];exact h.int.one x,fun{s e} hs x=>by
  have hs':up K.N r (some d) s=some e:=hs
  by_cases e2:s=r
  ·subst e2;rw[ay]at hs';cases hs'
   rw[ay,aC (cS hlo h2.1 hr),aC (cS hhi h2.1 hr)];rfl
  ·rw[aC e2]at hs'
   rw[aC e2,aC (cS (h.lo hs') h2.1 hr),aC (cS (h.hi hs') h2.1 hr)]
   exact h.int.node hs' x⟩
 kV:=fun e s=>by
  show rO K.T d (some r) e=some s↔up K.N r (some d) s=some e∧_
  by_cases e2:e=d
  ·subst e2
   rw[gU]
   constructor
   ·intro h;cases h;exact⟨ay,hE⟩
   ·rintro⟨h1,mg⟩
    by_cases e3:s=r
    ·rw[e3]
    ·rw[aC e3]at h1
     have a:=(h.kV e s).2 ⟨h1,mg⟩
     rw[hT]at a;cases a
  ·rw[mK e2,h.kV]
   by_cases e3:s=r
   ·subst e3
    rw[ay,hr]
    constructor
    ·rintro⟨h1,_⟩;cases h1
    ·rintro⟨h1,_⟩;cases h1;exact absurd rfl e2
   ·rw[aC e3]
 use:=fun{s e} hs=>by
  have hs':up K.N r (some d) s=some e:=hs
  have he:=ou (N:=K.N) (s:=r) (r:=s) (k:=K.cap) (o:=some d) h2.2
  rw[hr]at he
  have h0:e1 none s=0:=rfl
  show cV.getD s 0=bN (up K.N r (some d)) s K.cap+(if bV.getD s 0=0 then 0 else 1)+P s
  by_cases e2:s=r
  ·subst e2
   have hz:bN K.N s K.cap=0:=by
    refine Nat.eq_zero_of_not_pos fun hp=>?_
    obtain⟨t,e',_,ht,hc⟩:=iS hp
    have BX:=cS (h.lo ht) h2.1 hr
    have yw:=cS (h.hi ht) h2.1 hr
    rcases hc with hc|hc
    ·exact BX hc
    ·exact yw hc
   have JH:e1 (some d) s=0:=by
    rw[dG,if_neg (cS hlo h2.1 hr),if_neg (cS hhi h2.1 hr)]
   rw[u0,o0,if_pos rfl];omega
  ·rw[aC e2]at hs'
   have hu:=h.use hs'
   have h3:bV.getD s 0=K.hold s:=o1 s e2
   rw[u1 s (h.two hs').1 e2,h3];omega
 len:=hl
 fit:=fun{s e} hs=>by
  have hs':up K.N r (some d) s=some e:=hs
  show s<cV.length
  by_cases e2:s=r
  ·subst e2;exact hf.1
  ·rw[aC e2]at hs';exact Nat.lt_of_lt_of_le (h.fit hs') hf.2
 held:=fun s hs=>by
  have hs':bV.getD s 0≠0:=hs
  by_cases e2:s=r
  ·subst e2;exact⟨d,ay⟩
  ·rw[o1 s e2]at hs'
   obtain⟨e,he⟩:=h.held s hs'
   exact⟨e,by show up K.N r (some d) s=_;rw[aC e2];exact he⟩
 mx:=fun s=>by
  show bV.getD s 0≤65535
  by_cases e2:s=r
  ·subst e2;rw[o0];decide
  ·rw[o1 s e2];exact h.mx s
 room:=by
  have:=(kE (N:=K.N) (s:=r) (o:=some d) (k:=K.cap)).1 h2.2
  have hr':=h.room
  rw[hr]at this
  show K.used+1=2+fQ (up K.N r (some d)) K.cap
  simp at this;omega
 cap:=⟨by show K.used+1≤K.cap;omega,h.cap.2⟩
theorem gi.keep(h:gi K S E P){r:Nat}{cV bV:List Nat}(hr:∃d,K.N r=some d)(hm:K.hold r<65535)(hl:cV.length=K.us.length∧bV.length=K.ho.length)(o0:bV.getD r 0=K.hold r+1)(o1:∀s,s≠r→bV.getD s 0=K.hold s)
 (u0:cV.getD r 0=K.use r+(if K.hold r=0 then 1 else 0))(u1:∀s,s≠r→cV.getD s 0=K.use s):gi {K with us:=cV,ho:=bV} S E P where
 two:=h.two
 var:=h.var
 ne:=h.ne
 lo:=h.lo
 hi:=h.hi
 int:=h.int
 kV:=h.kV
 use:=fun{s e} hs=>by
  have hu:=h.use hs
  show cV.getD s 0=bN K.N s K.cap+(if bV.getD s 0=0 then 0 else 1)+P s
  by_cases e2:s=r
  ·subst e2
   rw[u0,o0,if_neg (by omega:¬K.hold s+1=0)]
   by_cases e3:K.hold s=0
   ·rw[if_pos e3]at hu⊢;omega
   ·rw[if_neg e3]at hu⊢;omega
  ·rw[u1 s e2,o1 s e2];exact hu
 len:=by show cV.length=bV.length;rw[hl.1,hl.2];exact h.len
 fit:=fun{s e} hs=>by show s<cV.length;rw[hl.1];exact h.fit hs
 held:=fun s hs=>by
  have hs':bV.getD s 0≠0:=hs
  by_cases e2:s=r
  ·subst e2;exact hr
  ·rw[o1 s e2]at hs';exact h.held s hs'
 mx:=fun s=>by
  show bV.getD s 0≤65535
  by_cases e2:s=r
  ·subst e2;rw[o0];omega
  ·rw[o1 s e2];exact h.mx s
 room:=h.room
 cap:=h.cap
theorem gi.drop(h:gi K S E P){r:Nat}{bV:List Nat}(hr:0<K.hold r)(hl:bV.length=K.ho.length)(o0:bV.getD r 0+1=K.hold r)(o1:∀s,s≠r→bV.getD s 0=K.hold s):
  gi {K with ho:=bV} S E (if K.hold r=1 then up P r (P r+1)else P) where
 two:=h.two
 var:=h.var
 ne:=h.ne
 lo:=h.lo
 hi:=h.hi
 int:=h.int
 kV:=h.kV
 use:=fun{s e} hs=>by
  have hu:=h.use hs
  show K.use s=bN K.N s K.cap+(if bV.getD s 0=0 then 0 else 1)+(if K.hold r=1 then up P r (P r+1)else P) s
  by_cases e2:s=r
  ·subst e2
   rw[if_neg (by omega:¬K.hold s=0)]at hu
   by_cases e3:K.hold s=1
   ·rw[if_pos e3,ay,if_pos (by omega)];omega
   ·rw[if_neg e3,if_neg (by omega)];omega
  ·rw[o1 s e2]
   by_cases e3:K.hold r=1
   ·rw[if_pos e3,aC e2];exact hu
   ·rw[if_neg e3];exact hu
 len:=by show K.us.length=bV.length;rw[hl];exact h.len
 fit:=h.fit
 held:=fun s hs=>by
  have hs':bV.getD s 0≠0:=hs
  by_cases e2:s=r
  ·subst e2;exact h.held s (by omega)
  ·rw[o1 s e2]at hs';exact h.held s hs'
 mx:=fun s=>by
  show bV.getD s 0≤65535
  have:=h.mx r
  by_cases e2:s=r
  ·subst e2;omega
  ·rw[o1 s e2];exact h.mx s
 room:=h.room
 cap:=h.cap
theorem gi.congr(h:gi K S E P){E':Nat→Prop}{P':Nat→Nat}(hE:∀s,E s↔E' s)(hP:∀s,2≤s→P s=P' s):gi K S E' P' where
 two:=h.two
 var:=h.var
 ne:=h.ne
 lo:=h.lo
 hi:=h.hi
 int:=h.int
 kV:=fun d r=>by rw[h.kV,hE]
 use:=fun{s e} hs=>by rw[←hP s (h.two hs).1];exact h.use hs
 len:=h.len
 fit:=h.fit
 held:=h.held
 mx:=h.mx
 room:=h.room
 cap:=h.cap
def fo:Nat→Prop:=fun _=>False
def zero':Nat→Nat:=fun _=>0
structure Ok(K:Kd)(S:Nat→Fn)(af:Nat→Nat):Prop where
 mid:gi K S fo zero'
 pos:Pos K
 lv:kX K.n af
 wf:WF K.n af K.N
theorem gi.uq(h:gi K S fo P){r r':Nat}{d:Nd}(h1:K.N r=some d)(h2:K.N r'=some d):r=r':=by
 have a:=(h.kV d r).2 ⟨h1,fun x=>x⟩
 have b:=(h.kV d r').2 ⟨h2,fun x=>x⟩
 rw[a]at b;cases b;rfl
theorem gi.wf(h:gi K S fo P){af:Nat→Nat}(hl:∀{r d},K.N r=some d→af d.v<dep K.n af K.N d.lo∧af d.v<dep K.n af K.N d.hi):WF K.n af K.N:=
 ⟨fun hd=>(h.two hd).1,h.var,h.ne,fun hd=>⟨h.lo hd,(hl hd).1⟩,fun hd=>⟨h.hi hd,(hl hd).2⟩,h.uq⟩
theorem Ok.reach{af:Nat→Nat}(h:Ok K S af):Reach K.N (fun r=>K.hold r≠0):=fun r d hd=>by
 have hu:=h.mid.use hd
 have hp:=h.pos r d hd
 by_cases e:K.hold r=0
 ·rw[if_pos e]at hu
  have:zero' r=0:=rfl
  obtain⟨s,e',_,h1,h2⟩:=iS (N:=K.N) (r:=r) (k:=K.cap) (by omega)
  exact .inr ⟨s,e',h1,h2⟩
 ·exact .inl e
theorem Ok.dom{af:Nat→Nat}(h:Ok K S af):∃dom:List Nat,dom.Nodup∧dom.length+2=K.used∧∀r,r∈dom↔∃d,K.N r=some d:=by
 refine⟨(List.range K.cap).filter fun r=>(K.N r).isSome,List.nodup_range.filter _,by rw[oD,h.mid.room];omega,fun r=>?_⟩
 rw[List.mem_filter,List.mem_range,Option.isSome_iff_exists]
 exact⟨fun h=>h.2,fun⟨d,hd⟩=>⟨(h.mid.two hd).2,d,hd⟩⟩
def Kd.held(K:Kd)(S:Nat→Fn):Fn→Prop:=Fs S fun r=>K.hold r≠0
theorem Ok.size{af:Nat→Nat}{ord:List Nat}(h:Ok K S af)(ho:Ord K.n af ord):xg (aA K.n ord (K.held S)) (K.used-2):=by
 obtain⟨dom,h1,h2,h3⟩:=h.dom
 have hc:=tI h.wf h.lv h.mid.int h1 h3
 rw[show dom.length=K.used-2 by omega]at hc
 refine hc.congr fun g=>?_
 exact(ja h.wf h.lv ho h.mid.int (fun r hr=>.inr (h.mid.held r hr)) h.reach g).symm
end aq
namespace aq
open dQ
variable {n:Nat} {af:Nat→Nat} {N:cP} {S:Nat→Fn} {ord:List Nat} {K:Kd}
def pl(N:cP)(y r:Nat):Nat:=match N r with|some e=>if e.v=y then e.lo else r|none=>r
structure Cx where
 r:Nat
 d:Nd
 IN:Nat
 IM:Nat
 AQ:Nat
 AP:Nat
def keys(x:Nat)(c:Cx):List Nd:=[⟨x,c.IN,c.AQ⟩,⟨x,c.IM,c.AP⟩]
variable {x y l:Nat}
theorem eW(h:WF n af N)(hl:kX n af)(hi:Interp N S){r:Nat}{d:Nd}(hd:N r=some d):∃z,S r (aQ z d.v false)≠S r (aQ z d.v true):=by
 refine Classical.byContradiction fun hno=>h.ne hd (h.same hl hi (h.lo hd).1 (h.hi hd).1 fun z=>?_)
 have c1:=h.child hl hi hd z false
 have c2:=h.child hl hi hd z true
 simp only[Bool.false_eq_true,if_false,if_true]at c1 c2
 rw[←c1,←c2]
 exact Classical.byContradiction fun hne=>hno ⟨z,hne⟩
def DW(ord:List Nat)(l:Nat):List Nat:=(ord.set l (ord.getD (l+1) 0)).set (l+1) (ord.getD l 0)
variable {F:Fn→Prop}
end aq
namespace aq
open dQ
def C7(K:Kd)(af:Nat→Nat)(l t:Nat):Prop:=live K.N t∧l+1<dep K.n af K.N t
def GM(K0 K:Kd)(af:Nat→Nat)(x l t:Nat):Prop:=C7 K0 af l t∨∃e,K.N t=some e∧e.v=x∧C7 K0 af l e.lo∧C7 K0 af l e.hi
structure TI(K0:Kd)(S0:Nat→Fn)(af:Nat→Nat)(x y l:Nat)(made:List Nd)(K:Kd)(S:Nat→Fn)(done rest:List Cx)(P:Nat→Nat):Prop where
 mid:gi K S (fun s=>∃c∈rest,s=c.r) P
 n:K.n=K0.n
 cap:K.cap=K0.cap
 hold:∀r,K.hold r=K0.hold r
 ext:∀r,live K0.N r→S r=S0 r
 old:∀{r d},K0.N r=some d→r∉done.map Cx.r→K.N r=some d
 kept:∀{r d},K0.N r=some d→∃d',K.N r=some d'
 new:∀{r d},K.N r=some d→(K0.N r=some d∧r∉done.map Cx.r)∨(r∈done.map Cx.r∧d.v=y∧GM K0 K af x l d.lo∧GM K0 K af x l d.hi)∨(K0.N r=none∧d.v=x∧C7 K0 af l d.lo∧C7 K0 af l d.hi)
 used:K.used=K0.used+(made.filter fun k=>(K.T k).isSome).length
end aq
namespace aq
open dQ
variable {n cap l:Nat} {ord:List Nat} {F G:Fn→Prop}
open Classical in
noncomputable def sz(n:Nat)(ord:List Nat)(F:Fn→Prop):Nat:=if h:∃k,xg (aA n ord F) k then Classical.choose h else 0
def FK(n:Nat)(ord:List Nat)(l:Nat)(F:Fn→Prop):Fn→Prop:=fun g=>aA n ord F g∨aA n (DW ord l) F g
open Classical in
noncomputable def FQ(n:Nat)(ord:List Nat)(l:Nat)(F:Fn→Prop):Nat:=if h:∃k,xg (FK n ord l F) k then Classical.choose h else 0
theorem uT(e:∀g,F g↔G g):sz n ord F=sz n ord G:=by
 have:F=G:=funext fun g=>propext (e g)
 rw[this]
def CZ(n cap:Nat)(F:Fn→Prop):List Nat→List Nat→Prop
 |_,[]=>True
 |ord,l::r=>l+1<n∧FQ n ord l F+2≤cap∧CZ n cap F (DW ord l) r
end aq
namespace aq
open dQ
variable {n l:Nat} {ord:List Nat} {L:dQ.Fs} {F:Fn→Prop}
def cur(n:Nat)(ord:List Nat)(L:dQ.Fs):Nat→dQ.Fs
 |0=>uR L
 |k+1=>given n (cur n ord L k) (ord.getD k 0)
theorem oo:∀k g,fs ord F k g→∀j,j<k→¬cU g (ord.getD j 0)
 |0,_,_,_,h=>absurd h (Nat.not_lt_zero _)
 |k+1,g,h,j,hj=>by
  obtain⟨f,hf,b,rfl⟩:=h
  rintro⟨x,hx⟩
  apply hx
  by_cases e:ord.getD j 0=ord.getD k 0
  ·show f (aQ (aQ x _ false) _ b)=f (aQ (aQ x _ true) _ b)
   congr 1
   apply Nat.eq_of_testBit_eq;intro i
   simp only[ak,e]
   split<;>rfl
  ·have hlt:j<k:=by
    rcases Nat.lt_succ_iff_lt_or_eq.1 hj with h|h
    ·exact h
    ·subst h;exact(e rfl).elim
   have:=oo k f hf j hlt
   show f (aQ (aQ x _ false) _ b)=f (aQ (aQ x _ true) _ b)
   rw[iG e,iG e]
   exact Classical.byContradiction fun hne=>this ⟨_,hne⟩
end aq
set_option maxRecDepth 100000
namespace Go.Proofs
open Go Go.Sx
open aq
def u32(r:Nat):Value:=.int .u32 (r:Int)
def dB(d:Nd):List Value:=[.int .i64 (d.v:Int),u32 d.lo,u32 d.hi]
structure gR where
 v:Int
 lo:Nat
 hi:Nat
 tk:Bool
 c:Nat
def gR.row(p:gR):List Value:=[.int .i64 p.v,u32 p.lo,u32 p.hi,.bool p.tk,.int .u8 (p.c:Int)]
def cL(N:cP)(r:Nat):Bool:=decide (r<2)||(N r).isSome
theorem bc{N:cP}{r:Nat}:cL N r=true↔live N r:=by
 unfold cL live
 rw[Bool.or_eq_true,decide_eq_true_eq,Option.isSome_iff_exists]
def got(N:cP)(r:Nat):List Value:=
 if r<2 then [.int .i64 (-1),u32 r,u32 r]else match N r with|some d=>dB d|none=>[.int .i64 0,u32 0,u32 0]
theorem dh{N:cP}{r:Nat}{d:Nd}(h:N r=some d)(h2:2≤r):got N r=dB d:=by unfold got;rw[if_neg (by omega),h]
theorem dL{N:cP}{r:Nat}(h2:r<2):got N r=[.int .i64 (-1),u32 r,u32 r]:=by unfold got;rw[if_pos h2]
theorem om{N:cP}{r:Nat}(h:cL N r=false):got N r=[.int .i64 0,u32 0,u32 0]:=by
 unfold cL at h
 rw[Bool.or_eq_false_iff,decide_eq_false_iff_not]at h
 unfold got;rw[if_neg h.1]
 cases hN:N r with
 |none=>rfl
 |some d=>rw[hN]at h;simp at h
def s4(p:gR):Option Nd:=if p.tk then some ⟨p.v.toNat,p.lo,p.hi⟩else none
structure oX(l:List gR)(fr:List Nat)(cap used:Nat)(N:cP):Prop where
 cap:l.length≤cap∧cap≤1048576
 two:2≤l.length
 const:∀r,r<2→∃p,l[r]? =some p∧p.v= -1∧p.lo=r∧p.hi=r∧p.tk=true
 nd:∀r,2≤r→N r=(l[r]?).bind s4
 n0:∀r,r<2→N r=none
 nn:∀(r:Nat) p,2≤r→l[r]? =some p→p.tk=true→0≤p.v
 zG:fr.Nodup
 wx:∀r,r∈fr↔∃p,l[r]? =some p∧p.tk=false
 used:used+fr.length=l.length
theorem oX.r4{l:List gR}{fr:List Nat}{cap used:Nat}{N:cP}(h:oX l fr cap used N)(r:Nat):cL N r=(match l[r]? with|some p=>p.tk|none=>false):=by
 unfold cL
 by_cases h2:r<2
 ·obtain⟨p,hp,_,_,_,ht⟩:=h.const r h2
  simp[h2,hp,ht]
 ·rw[h.nd r (by omega)]
  cases hl:l[r]? with
  |none=>simp[h2]
  |some p=>cases ht:p.tk<;>simp[h2,s4,ht]
theorem oX.Fi{l:List gR}{fr:List Nat}{cap used:Nat}{N:cP}(h:oX l fr cap used N){r:Nat}{p:gR}(hp:l[r]? =some p)(ht:p.tk=true):got N r=p.row.take 3:=by
 by_cases h2:r<2
 ·obtain⟨p',BN,h1,mg,h3,_⟩:=h.const r h2
  rw[hp]at BN;cases BN
  rw[dL h2];simp[gR.row,h1,mg,h3]
 ·have hn:=h.nn r p (by omega) hp ht
  rw[dh (d:=⟨p.v.toNat,p.lo,p.hi⟩) (by rw[h.nd r (by omega),hp];simp[s4,ht]) (by omega)]
  simp[dB,gR.row,Int.toNat_of_nonneg hn]
theorem oX.lt{l:List gR}{fr:List Nat}{cap used:Nat}{N:cP}(h:oX l fr cap used N){r:Nat}(hr:live N r):r<l.length:=by
 have:=bc.2 hr
 rw[h.r4]at this
 cases hl:l[r]? with
 |none=>rw[hl]at this;simp at this
 |some p=>exact(List.getElem?_eq_some_iff.1 hl).1
def dS(pa cap used:Nat)(N:cP)(C:Hp):Prop:=
 ∃vl vf l fr Cl Cf,C=(pa,.cells #[.int .i64 (cap:Int),vl,vf,.int .i64 (used:Int)] 224 (0,0))::(Cl++Cf)∧
  aD 228 5 vl (l.map gR.row) Cl∧au 110 .u32 vf (fr.map (Nat.cast:Nat→Int)) Cf∧oX l fr cap used N
abbrev ptr(b:Nat):Value:=.pointer (some ⟨b,0,none⟩)
theorem row_one(p:gR):∀x∈p.row,x.oneCell'=true:=by intro x hx;simp[gR.row,u32]at hx;rcases hx with rfl|rfl|rfl|rfl|rfl<;>rfl
theorem gV{pa cap used r:Nat}{N:cP}{C:Hp}(h:dS pa cap used N C)(hr:r<4294967296):
  Rd Tryz.prog 356 #[ptr pa,u32 r] C (· =.bool (cL N r)):=by
 obtain⟨vl,vf,l,fr,Cl,Cf,rfl,hl,hf,ho⟩:=h
 refine aX fun g=>qj ?_
 refine bt.q ?_
 refine Nil.ptr ?_
 refine aj.mk (Ld.mk zM rfl ?_)
 refine hl.cN ?_
 refine ae.jB ?_
 rw[List.length_map]
 rw[ho.r4 r]
 refine cW.and (match l[r]? with|some p=>p.tk|none=>false) (fun hlt=>?_) rfl fun _=>bF.mk (.refl _) ?_
 ·have jx:=of_decide_eq_true hlt
  refine Nil.ptr ?_
  refine aj.mk (Ld.mk zM rfl ?_)
  have hg:l[r]? =some l[r]:=List.getElem?_eq_getElem jx
  refine hl.Ae (r:=l[r].row) (x:=.bool l[r].tk) (by rw[List.getElem?_map,hg];rfl) rfl (fun _ h=>by exact .tail _ (List.mem_append_left _ h)) ?_
  exact⟨rfl,by rw[hg]⟩
 ·congr 1
  by_cases hlt:r<l.length
  ·simp[hlt]
  ·rw[List.getElem?_eq_none (by omega)];simp
theorem wq{pa cap used r:Nat}{N:cP}{C:Hp}(h:dS pa cap used N C)(hr:r<4294967296):
  Rd Tryz.prog 286 #[ptr pa,u32 r] C (· =.tuple #[.agg (got N r).toArray,.int .i64 (if cL N r then 0 else 3)]):=by
 have h0:=h
 obtain⟨vl,vf,l,fr,Cl,Cf,rfl,hl,hf,ho⟩:=h
 refine aX fun g=>qC ?_
 intro b1 _
 refine ae.bC (Br.no ?_)
 refine aa.eq (gV h0 hr) ?_
 refine Un.not ?_
 refine Br.mk (fun hb=>?_) (fun hb=>?_)
 ·have hb':cL N r=false:=by simpa using hb
  refine Build.mk (cs:=[.int .i64 0,.int .u32 0,.int .u32 0]) (by kernel_rfl) ?_
  refine St.q ?_
  refine aB.q ?_
  exact bF.mk .tail (by rw[om hb',hb'];rfl)
 ·have hb':cL N r=true:=by simpa using hb
  have hx:=hb'
  rw[ho.r4]at hx
  cases hg:l[r]? with
  |none=>rw[hg]at hx;simp at hx
  |some p=>
  rw[hg]at hx
  simp only at hx
  refine Nil.ptr ?_
  refine aj.mk (Ld.mk zM rfl ?_)
  refine hl.Ad (r:=p.row) (by rw[List.getElem?_map,hg];rfl) (by decide) (fun _ h=>by exact .tail _ (.tail _ (List.mem_append_left _ h))) ?_
  refine St.p (fun x hx=>row_one p x (List.mem_of_mem_take hx)) ?_
  refine aB.q ?_
  exact bF.mk .tail (by rw[ho.Fi hg hx,hb'];rfl)
structure FB(N:cP)(d:Nd):Prop where
 v:d.v<64
 lo:live N d.lo
 hi:live N d.hi
theorem dS.lt{pa cap used r:Nat}{N:cP}{C:Hp}(h:dS pa cap used N C)(hr:live N r):r<cap∧cap≤1048576:=by
 obtain⟨vl,vf,l,fr,Cl,Cf,rfl,hl,hf,ho⟩:=h
 exact⟨Nat.lt_of_lt_of_le (ho.lt hr) ho.cap.1,ho.cap.2⟩
theorem tT{pa cap used:Nat}{N:cP}{C:Hp}{d:Nd}(h:dS pa cap used N C)(hd:FB N d):
  Rd Tryz.prog 368 #[ptr pa,.agg (dB d).toArray] C (· =.int .i64 0):=by
 have hlo:=h.lt hd.lo
 have hhi:=h.lt hd.hi
 refine aX fun g=>qg ?_
 intro b1 _
 refine Ld.f ?_
 refine ae.lss ?_
 refine cW.or (decide (64≤d.v)) (fun _=>?_) rfl fun _=>?_
 ·refine Ld.f ?_
  exact ae.m6 (b:=64) ⟨rfl,rfl⟩
 have hv:=hd.v
 refine Br.D3 (by simp;omega) ?_
 intro J hJ
 refine Ld.f ?_
 refine aa.eq (gV h (by omega)) ?_
 rw[bc.2 hd.lo]
 refine Un.not (Split.go rfl ?_)
 refine Ld.f ?_
 refine aa.eq (gV h (by omega)) ?_
 rw[bc.2 hd.hi]
 refine Un.not (ax.mk (JE.mk (hJ _ _ fun gs=>Br.no (bF.mk .tail rfl))))
theorem Aa{pa cap used r:Nat}{N:cP}{C:Hp}(h:dS pa cap used N C)(hr:∃d,N r=some d)(h2:2≤r):
  Rd Tryz.prog 358 #[ptr pa,u32 r] C (· =.int .i64 0):=by
 have hl:=h.lt (.inr hr)
 refine aX fun g=>qh ?_
 intro J hJ
 refine ae.uG (b:=1) ?_
 refine Split.go (by simp;omega) ?_
 refine aa.eq (gV h (by omega)) ?_
 rw[bc.2 (.inr hr)]
 refine Un.not (ax.mk (JE.mk (hJ _ _ fun gs=>Br.no (bF.mk (.refl _) rfl))))
theorem wQ{pa cap used:Nat}{N:cP}{C:Hp}(h:dS pa cap used N C):Rd Tryz.prog 196 #[ptr pa] C (· =.int .i64 (used:Int)):=by
 obtain⟨vl,vf,l,fr,Cl,Cf,rfl,hl,hf,ho⟩:=h
 refine aX fun g=>rh ?_
 refine ae.bC (Br.no (Nil.ptr ?_))
 refine aj.mk (Ld.mk zM rfl ?_)
 exact bF.mk (.refl _) rfl
theorem p6{pa cap used:Nat}{N:cP}{C:Hp}(h:dS pa cap used N C):Rd Tryz.prog 321 #[ptr pa] C (· =.int .i64 (cap:Int)):=by
 obtain⟨vl,vf,l,fr,Cl,Cf,rfl,hl,hf,ho⟩:=h
 refine aX fun g=>qn ?_
 refine ae.bC (Br.no (Nil.ptr ?_))
 refine aj.mk (Ld.mk zM rfl ?_)
 exact bF.mk (.refl _) rfl
end Go.Proofs
set_option maxRecDepth 100000
namespace Go.Proofs
open Go Go.Sx
open aq
section
variable {l:List gR} {fr:List Nat} {cap used:Nat} {N:cP}
theorem vp(d:Nd){c:Nat}:s4 ⟨(d.v:Int),d.lo,d.hi,true,c⟩=some d:=by simp[s4]
theorem oX.reuse(h:oX l fr cap used N){r:Nat}(hr:r∈fr){fr':List Nat}(hf:fr.Perm (r::fr'))(d:Nd):
  2≤r∧r<cap∧N r=none∧oX (l.set r ⟨(d.v:Int),d.lo,d.hi,true,0⟩) fr' cap (used+1) (up N r (some d)):=by
 obtain⟨p,hp,ht⟩:=(h.wx r).1 hr
 have hlt:=(List.getElem?_eq_some_iff.1 hp).1
 have h2:2≤r:=by
  apply Decidable.byContradiction
  intro hn
  obtain⟨p',BN,_,_,_,ht'⟩:=h.const r (by omega)
  rw[hp]at BN;cases BN;rw[ht]at ht';cases ht'
 have j6:=hf.nodup_iff.1 h.zG
 rw[List.nodup_cons]at j6
 refine⟨h2,Nat.lt_of_lt_of_le hlt h.cap.1,by rw[h.nd r h2,hp];simp[s4,ht],?_⟩
 have fC:∀s,s≠r→(l.set r ⟨(d.v:Int),d.lo,d.hi,true,0⟩)[s]? =l[s]? :=fun s hs=>List.getElem?_set_ne (Ne.symm hs)
 have tp:(l.set r ⟨(d.v:Int),d.lo,d.hi,true,0⟩)[r]? =some ⟨(d.v:Int),d.lo,d.hi,true,0⟩:=List.getElem?_set_self hlt
 exact {
  cap:=by simpa using h.cap
  two:=by simpa using h.two
  const:=fun s hs=>by rw[fC s (by omega)];exact h.const s hs
  nd:=fun s hs=>by
   by_cases e:s=r
   ·subst e;rw[ay,tp];exact(vp d).symm
   ·rw[aC e,fC s e];exact h.nd s hs
  n0:=fun s hs=>by rw[aC (by omega)];exact h.n0 s hs
  nn:=fun s q hs hq yu=>by
   by_cases e:s=r
   ·subst e;rw[tp]at hq;cases hq;exact Int.natCast_nonneg _
   ·rw[fC s e]at hq;exact h.nn s q hs hq yu
  zG:=j6.2
  wx:=fun s=>by
   by_cases e:s=r
   ·subst e
    rw[tp]
    simp[j6.1]
   ·rw[fC s e,←h.wx s,hf.mem_iff]
    simp[e]
  used:=by have:=h.used;have:=hf.length_eq;simp only[List.length_cons,List.length_set]at*;omega}
theorem oX.grow(h:oX l [] cap used N)(hlt:l.length<cap)(d:Nd):
  2≤l.length∧N l.length=none∧oX (l++[⟨(d.v:Int),d.lo,d.hi,true,0⟩]) [] cap (used+1) (up N l.length (some d)):=by
 have h2:=h.two
 refine⟨h2,by rw[h.nd _ h2,List.getElem?_eq_none (Nat.le_refl _)];rfl,?_⟩
 have fC:∀s,s≠l.length→(l++[(⟨(d.v:Int),d.lo,d.hi,true,0⟩:gR)])[s]? =l[s]? :=fun s hs=>by
  rw[List.getElem?_append]
  split
  ·rfl
  ·rw[List.getElem?_eq_none (by simp;omega),List.getElem?_eq_none (by omega)]
 have tp:(l++[(⟨(d.v:Int),d.lo,d.hi,true,0⟩:gR)])[l.length]? =some ⟨(d.v:Int),d.lo,d.hi,true,0⟩:=by simp
 exact {
  cap:=by simp;exact⟨hlt,h.cap.2⟩
  two:=by simp;omega
  const:=fun s hs=>by rw[fC s (by omega)];exact h.const s hs
  nd:=fun s hs=>by
   by_cases e:s=l.length
   ·subst e;rw[ay,tp];exact(vp d).symm
   ·rw[aC e,fC s e];exact h.nd s hs
  n0:=fun s hs=>by rw[aC (by omega)];exact h.n0 s hs
  nn:=fun s q hs hq yu=>by
   by_cases e:s=l.length
   ·subst e;rw[tp]at hq;cases hq;exact Int.natCast_nonneg _
   ·rw[fC s e]at hq;exact h.nn s q hs hq yu
  zG:=h.zG
  wx:=fun s=>by
   by_cases e:s=l.length
   ·subst e
    rw[tp]
    simp
   ·rw[fC s e];exact h.wx s
  used:=by have:=h.used;simp at*;omega}
theorem oX.free(h:oX l fr cap used N){r:Nat}{p:gR}(h2:2≤r)(hp:l[r]? =some p)(ht:p.tk=true):
  oX (l.set r ⟨0,0,0,false,0⟩) (fr++[r]) cap (used-1) (up N r none)∧0<used:=by
 have hlt:=(List.getElem?_eq_some_iff.1 hp).1
 have fC:∀s,s≠r→(l.set r ⟨0,0,0,false,0⟩)[s]? =l[s]? :=fun s hs=>List.getElem?_set_ne (Ne.symm hs)
 have tp:(l.set r ⟨0,0,0,false,0⟩)[r]? =some ⟨0,0,0,false,0⟩:=List.getElem?_set_self hlt
 have Ga:r∉fr:=fun hm=>by obtain⟨q,hq,yu⟩:=(h.wx r).1 hm;rw[hp]at hq;cases hq;rw[ht]at yu;cases yu
 have hu:fr.length<l.length:=by
  have hn:(r::fr).Nodup:=List.nodup_cons.2 ⟨Ga,h.zG⟩
  have:=c6 (l:=r::fr) (l':=List.range l.length) hn fun s hs=>by
   rw[List.mem_range]
   rcases List.mem_cons.1 hs with rfl|hs
   ·exact hlt
   ·obtain⟨q,hq,_⟩:=(h.wx s).1 hs;exact(List.getElem?_eq_some_iff.1 hq).1
  rw[List.length_range]at this;exact this
 have Jp:=h.used
 refine⟨?_,by omega⟩
 exact {
  cap:=by simpa using h.cap
  two:=by simpa using h.two
  const:=fun s hs=>by rw[fC s (by omega)];exact h.const s hs
  nd:=fun s hs=>by
   by_cases e:s=r
   ·subst e;rw[ay,tp];rfl
   ·rw[aC e,fC s e];exact h.nd s hs
  n0:=fun s hs=>by rw[aC (by omega)];exact h.n0 s hs
  nn:=fun s q hs hq yu=>by
   by_cases e:s=r
   ·subst e;rw[tp]at hq;cases hq;cases yu
   ·rw[fC s e]at hq;exact h.nn s q hs hq yu
  zG:=by rw[List.nodup_append];exact⟨h.zG,by simp,fun a ha c hc=>by simp at hc;subst hc;intro e;subst e;exact Ga ha⟩
  wx:=fun s=>by
   rw[List.mem_append,List.mem_singleton]
   by_cases e:s=r
   ·subst e
    rw[tp]
    simp
   ·rw[fC s e,←h.wx];simp[e]
  used:=by simp;omega}
end
theorem jc(l:List gR)(r:Nat)(p:gR):(l.map gR.row).set r p.row=(l.set r p).map gR.row:=by rw[List.map_set]
theorem wU{pa cap used:Nat}{N:cP}{C:Hp}{d:Nd}(h:dS pa cap used N C)(hd:FB N d)(hroom:used<cap):
  Fc Tryz.prog 322 #[ptr pa,.agg (dB d).toArray] C (fun v C'=>∃r,v=.tuple #[u32 r,.int .i64 0]∧2≤r∧r<cap∧N r=none∧dS pa cap (used+1) (up N r (some d)) C'):=by
 have h0:=h
 obtain⟨vl,vf,l,fr,Cl,Cf,rfl,hl,hf,ho⟩:=h
 have hcap:=ho.cap
 have vO:=ho.used
 refine aX fun g=>qm ?_
 intro b1 _
 refine ae.bC (Br.no ?_)
 refine aB.q ?_
 refine aa.eq (tT h0 hd) ?_
 refine ae.ep (Br.F ?_)
 refine Nil.ptr ?_
 refine aj.mk (Ld.mk zM rfl ?_)
 refine hf.cN ?_
 rw[List.length_map]
 refine ae.og (b:=0) (Br.dec (fun hp=>?_) (fun hp=>?_))
 ·obtain⟨fr',r,rfl⟩:∃fr' r,fr=fr'++[r]:=⟨fr.dropLast,fr.getLast (by intro e;simp[e]at hp),(List.dropLast_concat_getLast _).symm⟩
  simp only[List.length_append,List.length_cons,List.length_nil]at hp vO⊢
  obtain⟨g1,g2,g3,hok⟩:=ho.reuse (r:=r) (by simp) (fr':=fr') (by exact List.perm_append_singleton _ _) d
  refine Nil.ptr ?_
  refine aj.mk (Ld.mk zM rfl ?_)
  refine ae.bp (a:=fr'.length+1) (b:=1) ?_
  rw[Nat.add_sub_cancel]
  refine hf.ld (i:=fr'.length) (x:=(r:Int)) (by simp) (fun _ h=>by exact .tail _ (.tail _ (List.mem_append_right _ h))) ?_
  refine Nil.ptr ?_
  refine aj.mk (Ld.mk zM rfl ?_)
  refine ae.bp (a:=fr'.length+1) (b:=1) ?_
  rw[Nat.add_sub_cancel]
  refine hf.cut (i:=fr'.length) (by simp) fun v' xn=>?_
  have B3:au 110 .u32 v' (fr'.map (Nat.cast:Nat→Int)) Cf:=by
   rw[List.map_append,List.take_left' (by simp)]at xn;exact xn
  have hone:v'.oneCell'=true:=by obtain⟨a,c,e⟩:=aD.len B3;rw[e];rfl
  refine Nil.ptr (aj.mk ?_)
  refine St.one (by exact .tail (.head _)) hone (by simp) rfl ?_
  refine DR.self ?_
  refine Nil.ptr ?_
  refine Ld.f ?_
  refine aB.q ?_
  refine Build.mk (cs:=(gR.mk (d.v:Int) d.lo d.hi true 0).row) (by kernel_rfl) ?_
  refine hl.u5 (A:=[_,_]) (B:=Cf) (i:=r) (by rw[List.length_map];have:=(ho.wx r).1 (by simp);obtain⟨p,hp,_⟩:=this;exact(List.getElem?_eq_some_iff.1 hp).1) rfl (row_one _) fun C' hl'=>?_
  rw[jc]at hl'
  simp only[List.cons_append,List.nil_append]
  refine Nil.ptr ?_
  refine Ld.f ?_
  refine ae.inc ?_
  refine Nil.ptr (aj.mk ?_)
  refine St.one (by exact .tail (.head _)) rfl (by simp) rfl ?_
  exact aY.mk .tail ⟨r,rfl,g1,g2,g3,vl,v',_,fr',C',Cf,rfl,hl',B3,hok⟩
 ·obtain rfl:fr=[]:=List.eq_nil_of_length_eq_zero (by omega)
  simp only[List.length_nil]at vO
  obtain⟨g1,g3,hok⟩:=ho.grow (by omega) d
  refine Nil.ptr ?_
  refine aj.mk (Ld.mk zM rfl ?_)
  refine hl.cN ?_
  rw[List.length_map]
  refine Nil.ptr ?_
  refine aj.mk (Ld.mk zM rfl ?_)
  refine ae.m6 (Br.F ?_)
  refine DR.of (R:=(b1,.cells (List.toArray (dB d)) 226 (0,0))::(pa,.cells #[.int .i64 (cap:Int),vl,vf,.int .i64 (used:Int)] 224 (0,0))::[]) (.cons (.cons .nil)) ?_
  refine Nil.ptr ?_
  refine aj.mk (Ld.mk zM rfl ?_)
  refine aB.q ?_
  refine Build.mk (cs:=(gR.mk (d.v:Int) d.lo d.hi true 0).row) (by kernel_rfl) ?_
  refine an.one (z:=.agg #[.int .i64 0,.int .u32 0,.int .u32 0,.bool false,.int .u8 0]) (e:=228) (k:=5) (by kernel_rfl) (by kernel_rfl) (by kernel_rfl) (by decide) rfl fun bx=>?_
  refine⟨.skip (.cons (.cons .nil)),?_⟩
  refine hl.yW (A:=[_,_,_]) (B:=Cf) (r:=(gR.mk (d.v:Int) d.lo d.hi true 0).row) (by exact .head _) rfl (row_one _) (by exact⟨[.int .i64 0,.int .u32 0,.int .u32 0,.bool false,.int .u8 0],rfl,rfl⟩) (by simp;omega) (by simp;omega) fun v' C' hl'=>?_
  have yw:aD 228 5 v' ((l++[(⟨(d.v:Int),d.lo,d.hi,true,0⟩:gR)]).map gR.row) C':=by rw[List.map_append];exact hl'
  simp only[List.cons_append,List.nil_append]
  refine⟨.skip (.cons (.cons .nil)),?_⟩
  have hone:v'.oneCell'=true:=by obtain⟨a,c,e⟩:=yw.len;rw[e];rfl
  refine Nil.ptr (aj.mk ?_)
  refine St.one (by exact .tail (.tail (.head _))) hone (by simp) rfl ?_
  refine Nil.ptr ?_
  refine Ld.f ?_
  refine ae.inc ?_
  refine Nil.ptr (aj.mk ?_)
  refine St.one (by exact .tail (.tail (.head _))) rfl (by simp) rfl ?_
  refine Nil.ptr ?_
  refine Ld.f ?_
  refine yw.cN ?_
  refine ae.xG (b:=1) (by simp[cO];omega) (by simp) ?_
  refine bt.q ?_
  refine aY.mk (.skip .tail) ⟨l.length,by simp[u32],g1,by omega,g3,v',vf,_,[],C',Cf,rfl,yw,hf,hok⟩
theorem wW{pa cap used r:Nat}{N:cP}{C:Hp}(h:dS pa cap used N C)(hr:∃e,N r=some e)(h2:2≤r):
  Fc Tryz.prog 289 #[ptr pa,u32 r] C (fun v C'=>v=.int .i64 0∧dS pa cap (used-1) (up N r none) C'):=by
 have h0:=h
 obtain⟨vl,vf,l,fr,Cl,Cf,rfl,hl,hf,ho⟩:=h
 have hx:=bc.2 (.inr hr:live N r)
 rw[ho.r4]at hx
 obtain⟨p,hg,hx⟩:∃p,l[r]? =some p∧p.tk=true:=by
  cases hg:l[r]? with
  |none=>rw[hg]at hx;simp at hx
  |some p=>rw[hg]at hx;exact⟨p,rfl,hx⟩
 obtain⟨hok,Ht⟩:=ho.free h2 hg hx
 have hcap:=ho.cap
 have vO:=ho.used
 refine aX fun g=>qz ?_
 refine ae.bC (Br.no ?_)
 refine aa.eq (Aa h0 hr h2) ?_
 refine ae.ep (Br.F ?_)
 refine Nil.ptr ?_
 refine aj.mk (Ld.mk zM rfl ?_)
 refine Build.mk (cs:=(gR.mk 0 0 0 false 0).row) (by kernel_rfl) ?_
 refine hl.u5 (A:=[_]) (B:=Cf) (i:=r) (by rw[List.length_map];exact(List.getElem?_eq_some_iff.1 hg).1) rfl (row_one _) fun C' hl'=>?_
 rw[jc]at hl'
 simp only[List.cons_append,List.nil_append]
 refine Nil.ptr ?_
 refine Ld.f ?_
 refine an.int (e:=110) (by kernel_rfl) (by kernel_rfl) (by kernel_rfl) fun bx=>?_
 have e1:(bx,Obj.cells (ai .u32 [(r:Int)]) 110 (0,0))::(pa,Obj.cells #[.int .i64 (cap:Int),vl,vf,.int .i64 (used:Int)] 224 (0,0))::(C'++Cf)=(bx,Obj.cells (ai .u32 [(r:Int)]) 110 (0,0))::(pa,Obj.cells #[.int .i64 (cap:Int),vl,vf,.int .i64 (used:Int)] 224 (0,0))::C'++(Cf++[]):=by simp
 rw[e1]
 refine hf.app (x:=(r:Int)) (B:=[]) (by exact .head _) (by simp;omega) (by simp;omega) fun v' GV xn=>?_
 have B3:au 110 .u32 v' ((fr++[r]).map (Nat.cast:Nat→Int)) GV:=by rw[List.map_append];exact xn
 have hone:v'.oneCell'=true:=by obtain⟨a,c,e⟩:=aD.len B3;rw[e];rfl
 simp only[List.cons_append,List.append_nil]
 refine Nil.ptr (aj.mk ?_)
 refine St.one (by exact .tail (.head _)) hone (by simp) rfl ?_
 refine Nil.ptr ?_
 refine Ld.f ?_
 refine ae.bp (b:=1) ?_
 refine Nil.ptr (aj.mk ?_)
 refine St.one (by exact .tail (.head _)) rfl (by simp) rfl ?_
 exact aY.mk .tail ⟨rfl,vl,v',_,_,C',GV,rfl,hl',B3,hok⟩
def nK(d:Nd):Value:=.agg (dB d).toArray
abbrev y5(v:Value)(r:Nat):Prop:=v=u32 r
theorem lH(a b:Nd):sK Tryz.prog 226 (nK a) (nK b) (decide (a=b)):=by
 refine sK.flat (fs:=#[⟨"Var",3,0,false, "", "",0⟩,⟨"Lo",110,1,false, "", "",8⟩,⟨"Hi",110,2,false, "", "",12⟩]) (by kernel_rfl) (by kernel_rfl) ?_ ?_
 ·intro f hf
  simp only[List.mem_cons,List.not_mem_nil,or_false]at hf
  rcases hf with rfl|rfl|rfl
  ·exact⟨by decide,_,_,rfl,rfl,.inl ⟨.i64,_,_,by kernel_rfl,rfl,rfl⟩⟩
  ·exact⟨by decide,_,_,rfl,rfl,.inl ⟨.u32,_,_,by kernel_rfl,rfl,rfl⟩⟩
  ·exact⟨by decide,_,_,rfl,rfl,.inl ⟨.u32,_,_,by kernel_rfl,rfl,rfl⟩⟩
 ·obtain⟨a1,a2,a3⟩:=a
  obtain⟨b1,b2,b3⟩:=b
  simp[dB,u32]
  omega
theorem iJ(a:Nd):gP Tryz.prog 226 (nK a):=by
 refine gP.flat (fs:=#[⟨"Var",3,0,false, "", "",0⟩,⟨"Lo",110,1,false, "", "",8⟩,⟨"Hi",110,2,false, "", "",12⟩]) (by kernel_rfl) ?_
 intro f hf
 simp only[List.mem_cons,List.not_mem_nil,or_false]at hf
 rcases hf with rfl|rfl|rfl
 ·exact⟨by decide,_,rfl,.inl ⟨.i64,_,_,by kernel_rfl,rfl,rfl⟩⟩
 ·exact⟨by decide,_,rfl,.inl ⟨.u32,_,_,by kernel_rfl,rfl,rfl⟩⟩
 ·exact⟨by decide,_,rfl,.inl ⟨.u32,_,_,by kernel_rfl,rfl,rfl⟩⟩
theorem x6(a:Nd):Instr.sameBits 10000 (nK a) (nK a)=true:=gp 9998 (by intro x hx;simp[dB,u32]at hx;rcases hx with rfl|rfl|rfl<;>exact .inl ⟨_,_,rfl⟩)
structure UM where
 b:Nat
 es:Array MapEntry
 ck:Nat
 l:List (Nd×Nat)
def vx(ms:List UM):Hp:=ms.map fun m=>(m.b,.map m.es m.ck)
structure xz(ms:List UM)(n:Nat)(T:Nd→Option Nat):Prop where
 len:ms.length=n
 gK:∀(v:Nat) m,ms[v]? =some m→aH nK y5 m.es m.ck m.l
 var:∀(v:Nat) m,ms[v]? =some m→∀x∈m.l,x.1.v=v
 T:∀d,T d=(ms[d.v]?).bind fun m=>aU m.l d
def iu(pt n:Nat)(T:Nd→Option Nat)(C:Hp):Prop:=
 ∃vs Cs ms,C=(pt,.cells #[vs] 166 (0,0))::(Cs++vx ms)∧aD 167 1 vs (ms.map fun m=>[.map (some m.b)]) Cs∧xz ms n T
theorem mS{ms:List UM}{v:Nat}{m:UM}(h:ms[v]? =some m):(m.b,Obj.map m.es m.ck)∈vx ms:=List.mem_map.2 ⟨m,List.mem_of_getElem? h,rfl⟩
theorem mR{es':Array MapEntry}{cY:Nat}{l':List (Nd×Nat)}:∀{ms:List UM} {v:Nat} {m:UM},ms[v]? =some m→cv m.b (.map m.es m.ck) (.map es' cY) (vx ms) (vx (ms.set v ⟨m.b,es',cY,l'⟩))
 | [],v,m,h=>by simp at h
 |x::ms,0,m,h=>by simp at h;subst h;exact .head _
 |x::ms,v+1,m,h=>by simp at h;exact .tail (mR h)
theorem lR{ms:List UM}{v:Nat}{m m':UM}(h:ms[v]? =some m)(hb:m'.b=m.b):(ms.set v m').map (fun m=>[Value.map (some m.b)])=ms.map fun m=>[Value.map (some m.b)]:=by
 rw[List.map_set]
 apply List.ext_getElem?
 intro j
 rw[List.getElem?_set]
 split
 ·rename_i e;subst e
  have hlt:=(List.getElem?_eq_some_iff.1 h).1
  have e2:ms[v]=m:=by rw[List.getElem?_eq_getElem hlt]at h;exact Option.some.inj h
  simp[hb,hlt,e2]
 ·rfl
theorem xz.add{ms:List UM}{n:Nat}{T:Nd→Option Nat}(h:xz ms n T){d:Nd}{m:UM}(hm:ms[d.v]? =some m){es':Array MapEntry}{cY r:Nat}(he:aH nK y5 es' cY (dV m.l d r)):xz (ms.set d.v ⟨m.b,es',cY,dV m.l d r⟩) n (rO T d (some r)) where
 len:=by rw[List.length_set];exact h.len
 gK:=fun v m' hm'=>by
  rw[List.getElem?_set]at hm'
  split at hm'
  ·split at hm'
   ·cases hm';exact he
   ·cases hm'
  ·exact h.gK v m' hm'
 var:=fun v m' hm' x hx=>by
  rw[List.getElem?_set]at hm'
  split at hm'
  ·rename_i e
   split at hm'
   ·cases hm'
    subst e
    simp only[dV]at hx
    split at hx
    ·obtain⟨y,hy,rfl⟩:=List.mem_map.1 hx
     split
     ·rfl
     ·exact h.var _ m hm y hy
    ·rcases List.mem_append.1 hx with hx|hx
     ·exact h.var _ m hm x hx
     ·simp at hx;subst hx;rfl
   ·cases hm'
  ·exact h.var v m' hm' x hx
 T:=fun e=>by
  have hlt:=(List.getElem?_eq_some_iff.1 hm).1
  by_cases ee:e=d
  ·subst ee;rw[gU,List.getElem?_set_self hlt];simp[bY]
  ·rw[mK ee,h.T e]
   by_cases ev:d.v=e.v
   ·rw[←ev,List.getElem?_set_self hlt,hm];simp[bY,ee]
   ·rw[List.getElem?_set_ne ev]
theorem xz.del{ms:List UM}{n:Nat}{T:Nd→Option Nat}(h:xz ms n T){d:Nd}{m:UM}(hm:ms[d.v]? =some m){es':Array MapEntry}{cY:Nat}(he:aH nK y5 es' cY (k7 m.l d)):xz (ms.set d.v ⟨m.b,es',cY,k7 m.l d⟩) n (rO T d none) where
 len:=by rw[List.length_set];exact h.len
 gK:=fun v m' hm'=>by
  rw[List.getElem?_set]at hm'
  split at hm'
  ·split at hm'
   ·cases hm';exact he
   ·cases hm'
  ·exact h.gK v m' hm'
 var:=fun v m' hm' x hx=>by
  rw[List.getElem?_set]at hm'
  split at hm'
  ·rename_i e
   split at hm'
   ·cases hm'
    subst e
    exact h.var _ m hm x (List.mem_filter.1 hx|>.1)
   ·cases hm'
  ·exact h.var v m' hm' x hx
 T:=fun e=>by
  have hlt:=(List.getElem?_eq_some_iff.1 hm).1
  by_cases ee:e=d
  ·subst ee;rw[gU,List.getElem?_set_self hlt];simp[lP]
  ·rw[mK ee,h.T e]
   by_cases ev:d.v=e.v
   ·rw[←ev,List.getElem?_set_self hlt,hm];simp[lP,ee]
   ·rw[List.getElem?_set_ne ev]
theorem iE{pt n v:Nat}{T:Nd→Option Nat}{C:Hp}(h:iu pt n T C)(hv:v<n):Rd Tryz.prog 357 #[ptr pt,.int .i64 (v:Int)] C (· =.int .i64 0):=by
 obtain⟨vs,Cs,ms,rfl,hs,ho⟩:=h
 refine aX fun g=>qi ?_
 refine ae.bC (Br.no ?_)
 refine ae.lss ?_
 rw[decide_eq_false (by omega:¬((v:Int)<0))]
 refine cW.or false (fun _=>?_) rfl fun _=>Br.no (bF.mk (.refl _) rfl)
 refine Nil.ptr ?_
 refine aj.mk (Ld.mk zM rfl ?_)
 refine hs.cN ?_
 rw[List.length_map,ho.len]
 exact ae.m6 ⟨rfl,by rw[decide_eq_false (by omega)]⟩
theorem yL{pt n:Nat}{T:Nd→Option Nat}{C:Hp}{d:Nd}(h:iu pt n T C)(hv:d.v<n):
  Rd Tryz.prog 320 #[ptr pt,nK d] C (· =.tuple #[u32 ((T d).getD 0),.bool (T d).isSome]):=by
 have h0:=h
 obtain⟨vs,Cs,ms,rfl,hs,ho⟩:=h
 obtain⟨m,hm⟩:∃m,ms[d.v]? =some m:=⟨_,List.getElem?_eq_getElem (by rw[ho.len];exact hv)⟩
 refine aX fun g=>qo ?_
 intro b1 _
 refine Ld.f ?_
 refine aa.eq (iE h0 hv) ?_
 refine ae.ep (Br.F ?_)
 refine Nil.ptr ?_
 refine aj.mk (Ld.mk zM rfl ?_)
 refine Ld.f ?_
 refine hs.A1 (x:=.map (some m.b)) (by rw[List.getElem?_map,hm];rfl) (fun _ h=>by exact .tail _ (.tail _ (List.mem_append_left _ h))) ?_
 refine aB.q ?_
 have hmem:(m.b,Obj.map m.es m.ck)∈(b1,Obj.cells (Value.cells (nK d)) 226 (0,0))::(pt,.cells #[vs] 166 (0,0))::(Cs++vx ms):=.tail _ (.tail _ (List.mem_append_right _ (mS hm)))
 have hT:T d=aU m.l d:=by rw[ho.T,hm];rfl
 rw[hT]
 cases hg:aU m.l d with
 |some r=>
  refine aH.yz (ke:=nK) (k:=d) lH iJ (ho.gK _ m hm) hmem hg ?_
  rintro v rfl
  exact Ext.mk rfl (Ext.mk rfl (bF.mk .tail rfl))
 |none=>
  refine aH.rY (ke:=nK) (k:=d) lH iJ (ho.gK _ m hm) hmem hg ?_
  exact Ext.mk rfl (Ext.mk rfl (bF.mk .tail rfl))
theorem xD{pt n r:Nat}{T:Nd→Option Nat}{C:Hp}{d:Nd}(h:iu pt n T C)(hv:d.v<n)(hT:T d=none):
  Fc Tryz.prog 302 #[ptr pt,nK d,u32 r] C (fun v C'=>v=.int .i64 0∧iu pt n (rO T d (some r)) C'):=by
 have h0:=h
 obtain⟨vs,Cs,ms,rfl,hs,ho⟩:=h
 obtain⟨m,hm⟩:∃m,ms[d.v]? =some m:=⟨_,List.getElem?_eq_getElem (by rw[ho.len];exact hv)⟩
 have EV:aU m.l d=none:=by rw[ho.T,hm]at hT;exact hT
 refine aX fun g=>qx ?_
 intro b1 _
 refine Ld.f ?_
 refine aa.eq (iE h0 hv) ?_
 refine ae.ep (Br.F ?_)
 refine Nil.ptr ?_
 refine aj.mk (Ld.mk zM rfl ?_)
 refine Ld.f ?_
 refine hs.A1 (x:=.map (some m.b)) (by rw[List.getElem?_map,hm];rfl) (fun _ h=>by exact .tail _ (.tail _ (List.mem_append_left _ h))) ?_
 refine aB.q ?_
 have hmem:(m.b,Obj.map m.es m.ck)∈(b1,Obj.cells (Value.cells (nK d)) 226 (0,0))::(pt,.cells #[vs] 166 (0,0))::(Cs++vx ms):=.tail _ (.tail _ (List.mem_append_right _ (mS hm)))
 refine aH.rY (ke:=nK) (k:=d) lH iJ (ho.gK _ m hm) hmem EV ?_
 refine Ext.mk rfl (Ext.mk rfl (Br.no ?_))
 refine DR.self ?_
 refine Nil.ptr ?_
 refine aj.mk (Ld.mk zM rfl ?_)
 refine Ld.f ?_
 refine hs.A1 (x:=.map (some m.b)) (by rw[List.getElem?_map,hm];rfl) (fun _ h=>by exact .tail _ (.tail _ (List.mem_append_left _ h))) ?_
 refine aB.q ?_
 refine aH.xB (ke:=nK) (k:=d) (vr:=y5) (x:=r) lH iJ x6 (ho.gK _ m hm) rfl fun es' cY he=>⟨_,.tail (.tail ((mR (l':=dV m.l d r) hm).cm Cs)),?_⟩
 exact aY.mk .tail ⟨rfl,vs,Cs,_,rfl,by rw[lR hm];exact hs;rfl,ho.add hm he⟩
theorem sY{pt n r:Nat}{T:Nd→Option Nat}{C:Hp}{d:Nd}(h:iu pt n T C)(hv:d.v<n)(hT:T d=some r):
  Fc Tryz.prog 288 #[ptr pt,nK d] C (fun v C'=>v=.int .i64 0∧iu pt n (rO T d none) C'):=by
 have h0:=h
 obtain⟨vs,Cs,ms,rfl,hs,ho⟩:=h
 obtain⟨m,hm⟩:∃m,ms[d.v]? =some m:=⟨_,List.getElem?_eq_getElem (by rw[ho.len];exact hv)⟩
 have EV:aU m.l d=some r:=by rw[ho.T,hm]at hT;exact hT
 refine aX fun g=>qA ?_
 intro b1 _
 refine Ld.f ?_
 refine aa.eq (iE h0 hv) ?_
 refine ae.ep (Br.F ?_)
 refine Nil.ptr ?_
 refine aj.mk (Ld.mk zM rfl ?_)
 refine Ld.f ?_
 refine hs.A1 (x:=.map (some m.b)) (by rw[List.getElem?_map,hm];rfl) (fun _ h=>by exact .tail _ (.tail _ (List.mem_append_left _ h))) ?_
 refine aB.q ?_
 have hmem:(m.b,Obj.map m.es m.ck)∈(b1,Obj.cells (Value.cells (nK d)) 226 (0,0))::(pt,.cells #[vs] 166 (0,0))::(Cs++vx ms):=.tail _ (.tail _ (List.mem_append_right _ (mS hm)))
 refine aH.yz (ke:=nK) (k:=d) lH iJ (ho.gK _ m hm) hmem EV ?_
 rintro v rfl
 refine Ext.mk rfl (Ext.mk rfl (Un.not (Br.no ?_)))
 refine DR.of (R:=(b1,Obj.cells (Value.cells (nK d)) 226 (0,0))::(pt,.cells #[vs] 166 (0,0))::Cs) (.cons (.cons .left)) ?_
 refine Nil.ptr ?_
 refine aj.mk (Ld.mk zM rfl ?_)
 refine Ld.f ?_
 refine hs.A1 (x:=.map (some m.b)) (by rw[List.getElem?_map,hm];rfl) (fun _ h=>by exact .tail _ (.tail _ h)) ?_
 refine aB.q ?_
 refine aH.Fo (ke:=nK) (k:=d) lH iJ (ho.gK _ m hm) hmem fun es' he=>⟨_,.tail (.tail ((mR (l':=k7 m.l d) hm).cm Cs)),?_⟩
 exact⟨.cons (.cons .left),aY.mk .tail ⟨rfl,vs,Cs,_,rfl,by rw[lR hm];exact hs;rfl,ho.del hm he⟩⟩
theorem xz.start(n:Nat)(bs:List Nat)(h:bs.length=n):xz (bs.map fun b=>⟨b,#[],0,[]⟩) n (fun _=>none) where
 len:=by simpa using h
 gK:=fun v m hm=>by
  rw[List.getElem?_map]at hm
  obtain⟨b,_,rfl⟩:=Option.map_eq_some_iff.1 hm
  exact aH.empty
 var:=fun v m hm x hx=>by
  rw[List.getElem?_map]at hm
  obtain⟨b,_,rfl⟩:=Option.map_eq_some_iff.1 hm
  simp at hx
 T:=fun d=>by
  rw[List.getElem?_map]
  cases bs[d.v]? <;>simp[aU]
theorem oq(x:Value):∀n:Nat,(List.replicate n [x]).flatten=List.replicate n x
 |0=>rfl
 |n+1=>by rw[List.replicate_succ,List.flatten_cons,List.replicate_succ,oq x n];rfl
theorem xC{n:Nat}(hn:1≤n∧n≤64):Fc Tryz.prog 69 #[.int .i64 (n:Int)] [] (fun v H=>∃pt,v=.tuple #[ptr pt,.int .i64 0]∧iu pt n (fun _=>none) H):=by
 refine aX fun g=>uk ?_
 refine ae.lss ?_
 rw[decide_eq_false (by omega)]
 refine cW.or false (fun _=>ae.gtr ⟨rfl,by rw[decide_eq_false (by omega)]⟩) rfl fun _=>Br.no ?_
 refine⟨.i64,.i64,n,n,rfl,rfl,Nat.le_refl _,by omega,by omega,?_⟩
 intro bs _
 refine Build.mk (cs:=[.slice (some ⟨bs,0,none⟩) n n]) (by kernel_rfl) ?_
 intro pt _
 have hz:madeCells (Value.cells (.map none)) (n*1)=rows ((List.replicate n [Value.map none])++[]):=by
  apply Array.ext'
  apply List.ext_getElem?
  intro i
  have:=oq (.map none) n
  simp only[madeCells,rows,Value.cells,Array.toList_map,Array.toList_range,List.getElem?_map,List.toList_toArray,Nat.mul_one,List.append_nil]
  rw[this,List.getElem?_replicate]
  by_cases hi:i<n
  ·simp[hi,Nat.mod_one]
  ·simp[hi]
 rw[hz]
 have hs0:aD 167 1 (.slice (some ⟨bs,0,none⟩) n n) (List.replicate n [Value.map none]) [(bs,.cells (rows ((List.replicate n [Value.map none])++[])) 167 (0,0))]:=
  aD.mk' (fun r hr=>by rw[List.append_nil]at hr;rw[List.eq_of_mem_replicate hr];rfl) (by simp) (by simp)
 refine⟨fun vs H=>∃(j:Nat) (bl:List Nat) (Cs:Hp),vs=[.int .i64 (j:Int)]∧bl.length=j∧j≤n∧H=(pt,.cells #[.slice (some ⟨bs,0,none⟩) n n] 166 (0,0))::(Cs++vx (bl.map fun b=>⟨b,#[],0,[]⟩))∧
  aD 167 1 (.slice (some ⟨bs,0,none⟩) n n) ((bl.map fun b=>[Value.map (some b)])++List.replicate (n-j) [Value.map none]) Cs,fun vs _=>n-cj vs 0,JE.mk ⟨0,[],_,rfl,rfl,by omega,by simp only[vx,List.map_nil,List.append_nil];rfl,by simpa using hs0⟩,?_⟩
 rintro w H ⟨j,bl,Cs,hw,Az,hj,rfl,hs⟩ gs
 simp only[List.cons.injEq,and_true]at hw
 subst hw
 refine ae.jB (Br.dec (fun hlt=>?_) (fun hlt=>?_))
 ·refine Nil.ptr ?_
  refine Ld.f ?_
  intro b _
  have hlen:((bl.map fun b=>[Value.map (some b)])++List.replicate (n-j) [Value.map none]).length=n:=by simp;omega
  refine aD.DZ (A:=[_,_]) (B:=vx (bl.map fun b=>⟨b,#[],0,[]⟩)) hs (i:=j) (y:=.map none) (by omega) ?_ rfl fun C' hs'=>?_
  ·rw[List.getElem?_append_right (by simp[Az])]
   simp only[List.length_map,Az,Nat.sub_self]
   rw[List.getElem?_replicate,if_pos (by omega)]
  refine ae.inc ?_
  have e:((bl.map fun b=>[Value.map (some b)])++List.replicate (n-j) [Value.map none]).set j [Value.map (some b)]=((bl++[b]).map fun b=>[Value.map (some b)])++List.replicate (n-(j+1)) [Value.map none]:=by
   rw[List.set_append_right _ _ (by simp[Az])]
   simp only[List.length_map,Az,Nat.sub_self]
   rw[show n-j=(n-(j+1))+1 by omega,List.replicate_succ,List.set_cons_zero,List.map_append]
   simp
  rw[e]at hs'
  refine av.of ?_ ⟨j+1,bl++[b],C',rfl,by simp[Az],by omega,rfl,hs'⟩ (by show n-(((j+1:Nat):Int).toNat)<n-(((j:Nat):Int).toNat);omega)
  refine aS.perm ?_
  simp only[List.cons_append,List.nil_append,vx,List.map_append,List.map_map]
  refine(List.Perm.swap _ _ _).trans (.cons _ ?_)
  rw[←List.append_assoc]
  exact(List.perm_append_singleton _ _).symm
 ·obtain rfl:j=n:=by omega
  refine aY.here ⟨pt,rfl,_,Cs,_,rfl,?_,xz.start _ bl Az⟩
  rw[Nat.sub_self]at hs
  simpa[List.map_map,Function.comp_def]using hs
theorem yX{n:Nat}(hn:2≤n∧n≤1048576):Fc Tryz.prog 119 #[.int .i64 (n:Int)] [] (fun v H=>∃pa,v=.tuple #[ptr pa,.int .i64 0]∧dS pa n 2 (fun _=>none) H):=by
 refine aX fun g=>rJ ?_
 refine ae.lss ?_
 rw[decide_eq_false (by omega)]
 refine cW.or false (fun _=>ae.gtr ⟨rfl,by rw[decide_eq_false (by omega)]⟩) rfl fun _=>Br.no ?_
 refine Build.mk (cs:=[.int .i64 (n:Int),.slice none 0 0,.slice none 0 0,.int .i64 2]) (by kernel_rfl) ?_
 intro pa _
 refine⟨fun vs H=>∃(j:Nat) (vl:Value) (Cl:Hp),vs=[u32 j]∧j≤2∧H=(pa,.cells #[.int .i64 (n:Int),vl,.slice none 0 0,.int .i64 2] 224 (0,0))::Cl∧
  aD 228 5 vl ((List.range j).map fun r=>(gR.mk (-1) r r true 255).row) Cl,fun vs _=>2-cj vs 0,JE.mk ⟨0,_,[],rfl,by omega,rfl,aD.nil _ _⟩,?_⟩
 rintro w H ⟨j,vl,Cl,hw,hj,rfl,hs⟩ gs
 simp only[List.cons.injEq,and_true]at hw
 subst hw
 refine ae.jB (b:=2) (Br.dec (fun hlt=>?_) (fun hlt=>?_))
 ·refine Nil.ptr ?_
  refine Ld.f ?_
  refine Build.mk (cs:=[.int .i64 (-1),u32 j,u32 j]) (by kernel_rfl) ?_
  refine Build.mk (cs:=(gR.mk (-1) j j true 255).row) (by kernel_rfl) ?_
  refine an.one (z:=.agg #[.int .i64 0,.int .u32 0,.int .u32 0,.bool false,.int .u8 0]) (e:=228) (k:=5) (by kernel_rfl) (by kernel_rfl) (by kernel_rfl) (by decide) rfl fun bx=>?_
  have e1:∀x y:Nat×Obj,x::y::Cl=[x,y]++(Cl++[]):=fun x y=>by simp
  rw[e1]
  refine hs.yW (A:=[_,_]) (B:=[]) (r:=(gR.mk (-1) j j true 255).row) (by exact .head _) rfl (row_one _) (by exact⟨[.int .i64 0,.int .u32 0,.int .u32 0,.bool false,.int .u8 0],rfl,rfl⟩) (by simp;omega) (by simp;omega) fun v' C' hs'=>?_
  simp only[List.cons_append,List.nil_append,List.append_nil]
  have hone:v'.oneCell'=true:=by obtain⟨a,c,e⟩:=hs'.len;rw[e];rfl
  refine Nil.ptr (aj.mk ?_)
  refine St.one (by exact .tail (.head _)) hone (by simp) rfl ?_
  refine ae.inc ?_
  refine av.of .tail ⟨j+1,v',C',rfl,by omega,rfl,?_⟩ (by show 2-(((j+1:Nat):Int).toNat)<2-(((j:Nat):Int).toNat);omega)
  rw[List.range_succ,List.map_append];exact hs'
 ·obtain rfl:j=2:=by omega
  refine aY.here ⟨pa,rfl,vl,_,[⟨-1,0,0,true,255⟩,⟨-1,1,1,true,255⟩],[],Cl,[],by rw[List.append_nil];rfl,hs,au.nil,?_⟩
  exact {
   cap:=by simp;omega
   two:=by simp
   const:=fun r hr=>by
    have:r=0∨r=1:=by omega
    rcases this with rfl|rfl
    ·exact⟨_,rfl,rfl,rfl,rfl,rfl⟩
    ·exact⟨_,rfl,rfl,rfl,rfl,rfl⟩
   nd:=fun r hr=>by rw[List.getElem?_eq_none (by simp;omega)];rfl
   n0:=fun _ _=>rfl
   nn:=fun r p hr hp _=>by rw[List.getElem?_eq_none (by simp;omega)]at hp;cases hp
   zG:=by simp
   wx:=fun r=>by
    simp only[List.not_mem_nil,false_iff,not_exists,not_and]
    intro p hp
    have hlt:=(List.getElem?_eq_some_iff.1 hp).1
    simp at hlt
    have:r=0∨r=1:=by omega
    rcases this with rfl|rfl<;>(simp at hp;subst hp;simp)
   used:=rfl}
structure mE where
 pa:Nat
 pt:Nat
 vu:Value
 vh:Value
 vo:Value
 vl:Value
 vt:Value
 CA:Hp
 CT:Hp
 CU:Hp
 CH:Hp
 CO:Hp
 CL:Hp
 CR:Hp
def mE.cells(b:mE)(n:Nat):Array Value:=#[ptr b.pa,ptr b.pt,b.vu,b.vh,.int .i64 (n:Int),b.vo,b.vl,b.vt]
def mE.hp(b:mE)(kp n:Nat):Hp:=(kp,.cells (b.cells n) 141 (0,0))::(b.CA++(b.CT++(b.CU++(b.CH++(b.CO++(b.CL++b.CR))))))
structure AU(b:mE)(K:Kd)(ord af tr:List Nat):Prop where
 ar:dS b.pa K.cap K.used K.N b.CA
 ut:iu b.pt K.n K.T b.CT
 us:au 21 .i32 b.vu (iw K.us) b.CU
 ho:au 21 .i32 b.vh (iw K.ho) b.CH
 od:au 3 .i64 b.vo (iw ord) b.CO
 lv:au 3 .i64 b.vl (iw af) b.CL
 tr:au 3 .i64 b.vt (iw tr) b.CR
 ul:K.us.length=K.ho.length∧K.us.length≤1048576
 ze:K.n≤64
 ol:ord.length=K.n∧af.length=K.n
def cB(kp:Nat)(K:Kd)(ord af tr:List Nat)(C:Hp):Prop:=∃b:mE,C=b.hp kp K.n∧AU b K ord af tr
section
variable {kp:Nat} {K:Kd} {ord af tr:List Nat} {C:Hp}
theorem cB.cap(h:cB kp K ord af tr C):K.cap≤1048576:=by
 obtain⟨b,rfl,hb⟩:=h
 exact(hb.ar.lt (r:=0) (.inl (by decide))).2
theorem cB.lt(h:cB kp K ord af tr C){r:Nat}(hr:live K.N r):r<1048576:=by
 obtain⟨b,rfl,hb⟩:=h
 have:=hb.ar.lt hr
 omega
theorem aJ(N:cP)(r:Nat):(got N r).length=3∧∀x∈got N r,x.oneCell'=true:=by
 unfold got
 split
 ·exact⟨rfl,by intro x hx;simp[u32]at hx;rcases hx with rfl|rfl|rfl<;>rfl⟩
 ·split
  ·exact⟨rfl,by intro x hx;simp[dB,u32]at hx;rcases hx with rfl|rfl|rfl<;>rfl⟩
  ·exact⟨rfl,by intro x hx;simp[u32]at hx;rcases hx with rfl|rfl|rfl<;>rfl⟩
theorem fJ(h:cB kp K ord af tr C){r:Nat}(hr:r<4294967296):Rd Tryz.prog 197 #[ptr kp,u32 r] C (· =.bool (cL K.N r)):=by
 obtain⟨b,rfl,hb⟩:=h
 refine aX fun g=>rf ?_
 refine Nil.ptr ?_
 refine Ld.f ?_
 refine aa.eq (wq hb.ar hr) ?_
 refine Ext.two ?_
 intro b8 _
 refine St.whole (r:=got K.N r) (by exact .head _) rfl (aJ _ _).1 (aJ _ _).2 ?_
 refine ae.iR ?_
 refine bF.mk .tail ?_
 cases cL K.N r<;>rfl
theorem jY(h:cB kp K ord af tr C){r:Nat}(hr:r<4294967296):Rd Tryz.prog 287 #[ptr kp,u32 r] C (· =.agg (got K.N r).toArray):=by
 obtain⟨b,rfl,hb⟩:=h
 refine aX fun g=>qB ?_
 intro b1 _
 refine Nil.ptr ?_
 refine Ld.f ?_
 refine aa.eq (wq hb.ar hr) ?_
 refine Ext.two ?_
 intro JS _
 refine St.whole (r:=got K.N r) (by exact .head _) rfl (aJ _ _).1 (aJ _ _).2 ?_
 refine aB.whole (r:=got K.N r) (by exact .head _) (aJ _ _).1 ?_
 refine St.whole (r:=got K.N r) (by exact .tail (.head _)) rfl (aJ _ _).1 (aJ _ _).2 ?_
 refine aB.whole (r:=got K.N r) (by exact .tail _ (.head _)) (aJ _ _).1 ?_
 exact bF.mk (.skip .tail) rfl
theorem vB(h:cB kp K ord af tr C){m:Nat}(hm:m≤1099511627776)(hu:K.used≤1048576):Rd Tryz.prog 245 #[ptr kp,.int .i64 (m:Int)] C (· =.bool (decide (K.used+m≤K.cap))):=by
 obtain⟨b,rfl,hb⟩:=h
 refine aX fun g=>qK ?_
 refine DR.self ?_
 refine Nil.ptr ?_
 refine Ld.f ?_
 refine Nil.ptr ?_
 refine Ld.f ?_
 refine aa.eq (wQ hb.ar) ?_
 refine⟨.refl _,?_⟩
 refine ae.dX ?_
 refine aa.eq (p6 hb.ar) ?_
 refine⟨.refl _,?_⟩
 refine ae.uG ?_
 exact bF.mk (.refl _) rfl
def lu(K:Kd)(r:Nat):List Nat:=if r<2 then K.us else K.us.set r (K.use r+1)
theorem dZ(r:Nat):(lu K r).length=K.us.length:=by unfold lu;split<;>simp
theorem nw{r:Nat}(h2:2≤r)(hr:r<K.us.length):(lu K r).getD r 0=K.use r+1:=by
 unfold lu;rw[if_neg (by omega)];simp[List.getD,hr]
theorem uO{r s:Nat}(h:s≠r):(lu K r).getD s 0=K.use s:=by
 unfold lu Kd.use
 split
 ·rfl
 ·simp[List.getD,List.getElem?_set_ne (Ne.symm h)]
theorem uL(h:cB kp K ord af tr C){r:Nat}(hr:r<2∨r<K.us.length)(hb:K.use r+1<2147483648):
  Fc Tryz.prog 300 #[ptr kp,u32 r] C (fun v C'=>v=.tuple #[]∧cB kp {K with us:=lu K r} ord af tr C'):=by
 obtain⟨b,rfl,hO⟩:=h
 refine aX fun g=>qy ?_
 refine ae.og (b:=1) (Br.dec (fun h1=>?_) (fun h1=>?_))
 ·have hr':r<K.us.length:=by omega
  refine Nil.ptr ?_
  refine Ld.f ?_
  refine hO.us.ld (x:=((K.use r:Nat):Int)) (bH hr') (aT.sub (.cons (.app (.app .left)))) ?_
  refine ae.inc ?_
  refine hO.us.iI (.cons (.app (.app .left))) (by simpa using hr') fun C' ho=>?_
  refine aY.here ⟨rfl,{b with CU:=C'},rfl,?_⟩
  have e:lu K r=K.us.set r (K.use r+1):=by unfold lu;rw[if_neg (by omega)]
  exact {hO with us:=by rw[ej]at ho;rw[e];exact ho,ul:=by simp only[e,List.length_set];exact hO.ul}
 ·refine aY.here ⟨rfl,b,rfl,?_⟩
  have e:lu K r=K.us:=by unfold lu;rw[if_pos (by omega)]
  rw[e];exact hO
end
section
variable {kp:Nat} {K:Kd} {ord af tr:List Nat} {C:Hp}
theorem eK{l:List Nat}{r s x:Nat}(hr:r<l.length):(l.set r x).getD s 0=if s=r then x else l.getD s 0:=by
 simp only[List.getD,List.getElem?_set]
 by_cases e:r=s
 ·subst e;simp[hr]
 ·rw[if_neg e,if_neg (Ne.symm e)]
theorem kj(l:List Nat)(s:Nat):(l++[0]).getD s 0=l.getD s 0:=by
 simp only[List.getD,List.getElem?_append]
 split
 ·rfl
 ·rename_i h
  rw[List.getElem?_eq_none (by omega:l.length≤s)]
  cases hs:s-l.length<;>simp[hs]
def uP:Hp→Nat
 |_::(_,Obj.cells c _ _)::_=>(match c[2]? with|some (Value.slice _ n _)=>n|_=>0)
 |_=>0
theorem ny{b:mE}{x:Nat×Obj}{n m:Nat}{a:Option Addr}{cp:Nat}(h:b.vu=.slice a m cp):uP (x::b.hp kp n)=m:=by simp[uP,mE.hp,mE.cells,h]
theorem xF(h:cB kp K ord af tr C){d:Nd}(hd:FB K.N d)(hv:d.v<K.n)(hT:K.T d=none)(hroom:K.used<K.cap)(hlo:d.lo<2∨d.lo<K.us.length)(hhi:d.hi<2∨d.hi<K.us.length)
 (hb:∀s,K.use s+2<2147483648):
  Fc Tryz.prog 246 #[ptr kp,nK d] C (fun v C'=>∃r cV bV,v=u32 r∧K.N r=none∧2≤r∧r<K.cap∧cV.length=bV.length∧r<cV.length∧K.us.length≤cV.length∧cV.getD r 0=0∧
   (∀s,2≤s→s≠r→cV.getD s 0=K.use s+e1 (some d) s)∧(∀s,s<2→cV.getD s 0=K.use s)∧bV.getD r 0=0∧(∀s,s≠r→bV.getD s 0=K.hold s)∧
   cB kp {K with N:=up K.N r (some d),T:=rO K.T d (some r),used:=K.used+1,us:=cV,ho:=bV} ord af tr C'):=by
 have hcap:=h.cap
 obtain⟨b,rfl,hO⟩:=h
 have zm:=hO.ul
 refine aX fun g=>qJ ?_
 intro b1 _
 refine DR.of (R:=(b1,.cells (Value.cells (nK d)) 226 (0,0))::(kp,.cells (b.cells K.n) 141 (0,0))::[]) (.cons (.cons .nil)) ?_
 refine Nil.ptr ?_
 refine Ld.f ?_
 refine aB.q ?_
 refine aa.fq (wU hO.ar hd hroom) ?_
 rintro v FJ ⟨r,rfl,h2,hrc,hN,ER⟩
 refine⟨.cons (.cons .nil),Ext.mk rfl (Ext.mk rfl ?_)⟩
 refine⟨fun _ H=>∃(b':mE) (cV bV:List Nat),H=(b1,.cells (Value.cells (nK d)) 226 (0,0))::b'.hp kp K.n∧AU b' {K with N:=up K.N r (some d),used:=K.used+1,us:=cV,ho:=bV} ord af tr∧
   K.us.length≤cV.length∧(∀s,cV.getD s 0=K.use s)∧∀s,bV.getD s 0=K.hold s,
  fun _ H=>r+1-uP H,JE.mk ⟨{b with CA:=FJ},K.us,K.ho,rfl,{hO with ar:=ER,ul:=zm},Nat.le_refl _,fun _=>rfl,fun _=>rfl⟩,?_⟩
 rintro H ⟨b',cV,bV,rfl,tx,hle,hu,hh⟩ gs
 have BD:=tx.ul
 simp only at BD
 refine bt.q (Nil.ptr ?_)
 refine Ld.f ?_
 refine tx.us.cN ?_
 rw[aE]
 refine ae.m6 (Br.dec (fun hge=>?_) (fun hge=>?_))
 ·have hge:cV.length≤r:=hge
  refine Nil.ptr ?_
  refine Ld.f ?_
  refine an.int (e:=21) (by kernel_rfl) (by kernel_rfl) (by kernel_rfl) fun bx=>?_
  refine tx.us.oN (.cons (.cons (.cons (.app (.app .left))))) (by exact .head _) (by simp;omega) (by simp;omega) fun FM xA oR=>?_
  refine Nil.ptr (aj.mk ?_)
  refine St.one (by exact .tail (.tail (.head _))) oR.one (by simp[mE.cells]) rfl ?_
  refine Nil.ptr ?_
  refine Ld.f ?_
  refine an.int (e:=21) (by kernel_rfl) (by kernel_rfl) (by kernel_rfl) fun II=>?_
  refine tx.ho.oN (.cons (.cons (.cons (.cons (.app (.app (.app .left))))))) (by exact .head _) (by simp;omega) (by simp;omega) fun FO y4 iC=>?_
  refine Nil.ptr (aj.mk ?_)
  refine St.one (by exact .tail (.tail (.tail (.head _)))) iC.one (by simp[mE.cells]) rfl ?_
  have e0:∀l:List Nat,iw l++[0]=iw (l++[0]):=fun l=>by rw[cM];rfl
  rw[e0]at oR iC
  refine av.of (.skip (.skip (.refl _))) ⟨{b' with vu:=FM,vh:=FO,CU:=xA,CH:=y4},cV++[0],bV++[0],rfl,{tx with us:=oR,ho:=iC,ul:=by simp at BD⊢;omega},by simp;omega,fun s=>by rw[kj,hu],fun s=>by rw[kj,hh]⟩ ?_
  obtain⟨a1,c1,e1⟩:=aD.len tx.us
  obtain⟨a2,c2,e2⟩:=aD.len oR
  have f1:=ny (b:=b') (x:=(b1,.cells (Value.cells (nK d)) 226 (0,0))) (kp:=kp) (n:=K.n) e1
  have f2:=ny (b:={b' with vu:=FM,vh:=FO,CU:=xA,CH:=y4}) (x:=(b1,.cells (Value.cells (nK d)) 226 (0,0))) (kp:=kp) (n:=K.n) e2
  rw[f1]
  refine Nat.lt_of_le_of_lt (Nat.le_of_eq (congrArg (fun z=>r+1-z) f2)) ?_
  simp
  omega
 ·have hge:¬cV.length≤r:=hge
  have BI:r<cV.length:=by omega
  have oa:r<bV.length:=by omega
  refine DR.of (R:=(kp,.cells (b'.cells K.n) 141 (0,0))::[]) (.skip (.cons .nil)) ?_
  refine Nil.ptr ?_
  refine Ld.f ?_
  refine Nil.ptr ?_
  refine Ld.f ?_
  refine tx.us.iI (x:=0) (.cons (.cons (.app (.app .left)))) (by simpa using BI) fun xA oR=>?_
  refine tx.ho.iI (x:=0) (.cons (.cons (.app (.app (.app .left))))) (by simpa using oa) fun y4 iC=>?_
  have e0:∀l:List Nat,(iw l).set r 0=iw (l.set r 0):=fun l=>ej l r 0
  rw[e0]at oR iC
  have lor:d.lo≠r:=cS hd.lo h2 hN
  have HK:d.hi≠r:=cS hd.hi h2 hN
  refine Ld.f ?_
  have u0:∀s,(cV.set r 0).getD s 0=if s=r then 0 else K.use s:=fun s=>by rw[eK BI];split;rfl;exact hu s
  have h0:∀s,(bV.set r 0).getD s 0=if s=r then 0 else K.hold s:=fun s=>by rw[eK oa];split;rfl;exact hh s
  have oU:cB kp {K with N:=up K.N r (some d),used:=K.used+1,us:=cV.set r 0,ho:=bV.set r 0} ord af tr (({b' with CU:=xA,CH:=y4}:mE).hp kp K.n):=⟨_,rfl,{tx with us:=oR,ho:=iC,ul:=by simp;omega}⟩
  refine aa.fq (uL oU (by simp;omega) (by have:=hb d.lo;show(cV.set r 0).getD d.lo 0+1<_;rw[u0,if_neg lor];omega)) ?_
  rintro v C1 ⟨rfl,fw⟩
  refine Ld.f ?_
  have u1:∀s,(lu {K with N:=up K.N r (some d),used:=K.used+1,us:=cV.set r 0,ho:=bV.set r 0} d.lo).getD s 0=(if s=r then 0 else K.use s)+(if 2≤s∧s=d.lo then 1 else 0):=fun s=>by
   by_cases e:s=d.lo
   ·by_cases h2:2≤s
    ·rw[if_pos (show 2≤s∧s=d.lo from⟨h2,e⟩),e,nw (by omega) (by simp;omega)]
     show(cV.set r 0).getD d.lo 0+1=_
     rw[u0]
    ·rw[if_neg (show¬(2≤s∧s=d.lo)by omega)]
     unfold lu
     rw[if_pos (by omega)]
     show(cV.set r 0).getD s 0=_
     rw[u0];rfl
   ·rw[if_neg (show¬(2≤s∧s=d.lo)by omega),uO e]
    show(cV.set r 0).getD s 0=_
    rw[u0];rfl
  refine aa.fq (uL fw (by rw[dZ];simp;omega) (by
   have:=hb d.hi
   show(lu _ d.lo).getD d.hi 0+1<_
   rw[u1,if_neg HK];split<;>omega)) ?_
  rintro v C2 ⟨rfl,yF⟩
  have Ij:=yF
  obtain⟨b3,rfl,Gr⟩:=yF
  refine DR.self ?_
  refine Nil.ptr ?_
  refine Ld.f ?_
  refine aB.q ?_
  refine aa.fq (xD Gr.ut hv hT) ?_
  rintro v FI ⟨rfl,Ed⟩
  have u2:∀s,(lu {K with N:=up K.N r (some d),used:=K.used+1,us:=lu {K with N:=up K.N r (some d),used:=K.used+1,us:=cV.set r 0,ho:=bV.set r 0} d.lo,ho:=bV.set r 0} d.hi).getD s 0=(if s=r then 0 else K.use s)+(if 2≤s∧s=d.lo then 1 else 0)+(if 2≤s∧s=d.hi then 1 else 0):=fun s=>by
   by_cases e:s=d.hi
   ·by_cases h2:2≤s
    ·rw[if_pos (show 2≤s∧s=d.hi from⟨h2,e⟩),e,nw (by omega) (by rw[dZ];simp;omega)]
     show(lu _ d.lo).getD d.hi 0+1=_
     rw[u1]
    ·rw[if_neg (show¬(2≤s∧s=d.hi)by omega)]
     unfold lu
     rw[if_pos (by omega)]
     show(lu _ d.lo).getD s 0=_
     rw[u1];rfl
   ·rw[if_neg (show¬(2≤s∧s=d.hi)by omega),uO e]
    show(lu _ d.lo).getD s 0=_
    rw[u1];rfl
  refine aY.mk .tail ⟨r,_,_,rfl,hN,h2,hrc,?_,?_,?_,?_,?_,?_,?_,?_,{b3 with CT:=FI},rfl,{Gr with ut:=Ed}⟩
  ·rw[dZ,dZ];simp;omega
  ·rw[dZ,dZ];simp;omega
  ·rw[dZ,dZ];simp;omega
  ·rw[u2,if_pos rfl,if_neg (show¬(2≤r∧r=d.lo)by omega),if_neg (show¬(2≤r∧r=d.hi)by omega)]
  ·intro s DG hne
   rw[u2,if_neg hne,dG]
   have c1:(2≤s∧s=d.lo)↔d.lo=s:=⟨fun h=>h.2.symm,fun h=>⟨DG,h.symm⟩⟩
   have c2:(2≤s∧s=d.hi)↔d.hi=s:=⟨fun h=>h.2.symm,fun h=>⟨DG,h.symm⟩⟩
   simp only[c1,c2]
   omega
  ·intro s hs
   rw[u2,if_neg (show¬s=r by omega),if_neg (show¬(2≤s∧s=d.lo)by omega),if_neg (show¬(2≤s∧s=d.hi)by omega)]
   try simp
  ·rw[h0,if_pos rfl]
  ·intro s hne;rw[h0,if_neg hne]
end
section
variable {kp:Nat} {K:Kd} {ord af tr:List Nat} {C:Hp} {S:Nat→aq.Fn}
structure wZ(K' K:Kd):Prop where
 N:∀{s d},K'.N s=some d→K.N s=some d
 n:K'.n=K.n
 cap:K'.cap=K.cap
 ho:K'.ho=K.ho
 us:∀s,K'.use s≤K.use s
 idle:(∀s,K.N s=none→K.use s=0)→∀s,K'.N s=none→K'.use s=0
theorem wZ.refl(K:Kd):wZ K K:=⟨fun h=>h,rfl,rfl,rfl,fun _=>Nat.le_refl _,fun h=>h⟩
def PL(P:Nat→Nat)(N:cP):Prop:=∀t,2≤t→0<P t→∃d,N t=some d
def dI(P0:Nat→Nat)(l:List Nat):Nat→Nat:=fun s=>P0 s+l.count s
theorem tJ{P0:Nat→Nat}{l:List Nat}{t:Nat}:up (dI P0 (l++[t])) t (dI P0 (l++[t]) t-1)=dI P0 l:=by
 funext s
 unfold up dI
 split
 ·rename_i e;subst e;simp
 ·rename_i e;simp[List.count_append,List.count_singleton,Ne.symm e]
theorem ph{P0:Nat→Nat}(h:cB kp K ord af tr C){r:Nat}(hm:gi K S fo (dI P0 [r]))(hp:Pos K)(hl:PL (dI P0 [r]) K.N)(hr:r<1048576)(Ia:∀s,K.use s<2147483648):
  Fc Tryz.prog 199 #[ptr kp,u32 r] C (fun v C'=>v=.tuple #[]∧∃K',cB kp K' ord af tr C'∧gi K' S fo P0∧Pos K'∧PL P0 K'.N∧wZ K' K):=by
 refine aX fun g=>q8 ?_
 refine an.int (e:=110) (by kernel_rfl) (by kernel_rfl) (by kernel_rfl) fun bx=>?_
 refine Bx (fun k vs H=>∃(w:Value) (Ct C':Hp) (todo:List Nat) (K':Kd),vs=[w]∧H=Ct++C'∧au 110 .u32 w (iw todo) Ct∧cB kp K' ord af tr C'∧gi K' S fo (dI P0 todo)∧Pos K'∧PL (dI P0 todo) K'.N∧wZ K' K∧(∀t∈todo,t<1048576)∧k=3*K'.used+todo.length∧k≤3*K.used+1)
  _ ⟨_,[_],C,[r],K,rfl,rfl,au.made [(r:Int)],h,hm,hp,hl,.refl K,by simpa using hr,rfl,by simp⟩ ?_
 rintro w H hJ gs
 obtain⟨k,⟨w',Ct,C',todo,K',hw,rfl,ht,hK,hM,wh,DA,gw,hT,hk,JC⟩,hkm⟩:=hJ.open
 simp only[List.cons.injEq,and_true]at hw
 subst hw
 refine ht.cN ?_
 rw[aE]
 refine ae.og (b:=0) (Br.dec (fun hpos=>?_) (fun hpos=>?_))
 ·have Gj:=hm.cap
  obtain⟨pre,t,rfl⟩:∃pre t,todo=pre++[t]:=⟨todo.dropLast,todo.getLast (by intro e;simp[e]at hpos),(List.dropLast_concat_getLast _).symm⟩
  have Hu:(pre++[t]).length=pre.length+1:=by simp
  have Jq:=hT t (by simp)
  refine ht.cN ?_
  rw[aE,Hu]
  refine ae.xG (b:=1) ?_ (by omega) ?_
  ·simp[cO];omega
  rw[Nat.add_sub_cancel]
  refine ht.ld (i:=pre.length) (x:=(t:Int)) (by rw[cM];simp[iw]) (aT.sub .left) ?_
  refine ht.cut (i:=pre.length) (by simp) fun w' ht'=>?_
  have BF:au 110 .u32 w' (iw pre) Ct:=by
   rw[cM,List.take_left' (by simp)]at ht';exact ht'
  have EU:∀s∈pre,s<1048576:=fun s hs=>hT s (List.mem_append_left _ hs)
  refine ae.uG (b:=1) (Br.dec (fun h1=>?_) (fun h1=>?_))
  ·have hc:∀s,2≤s→dI P0 (pre++[t]) s=dI P0 pre s:=fun s hs=>by
    unfold dI;rw[List.count_append,List.count_singleton];simp;omega
   exact fT.back (.refl _) hkm (3*K'.used+pre.length) ⟨w',Ct,C',pre,K',rfl,rfl,BF,hK,hM.congr (fun _=>Iff.rfl) hc,wh,fun s hs h0=>DA s hs (by rw[hc s hs];exact h0),gw,EU,rfl,by simp at hk;omega⟩ (by rw[hk];simp)
  ·have Gp:0<dI P0 (pre++[t]) t:=by unfold dI;simp;omega
   obtain⟨d,hd⟩:=DA t (by omega) Gp
   have hfit:=hM.fit hd
   have Jw:=wh t d hd
   obtain⟨b,rfl,hO⟩:=hK
   refine Nil.ptr ?_
   refine Ld.f ?_
   refine hO.us.ld (x:=((K'.use t:Nat):Int)) (bH hfit) (aT.sub (.app (.cons (.app (.app .left))))) ?_
   refine ae.xG (b:=1) ?_ (by omega) ?_
   ·have:=gw.us t
    have:=Ia t
    simp[cO];omega
   refine hO.us.iI (x:=((K'.use t-1:Nat):Int)) (.app (.cons (.app (.app .left)))) (by simpa using hfit) fun xA oR=>?_
   rw[ej]at oR
   have g1:∀s,(K'.us.set t (K'.use t-1)).getD s 0=if s=t then K'.use t-1 else K'.use s:=fun s=>eK hfit
   have AF:=hM.less (r:=t) (cV:=K'.us.set t (K'.use t-1)) Gp (by simp) (by rw[g1,if_pos rfl];omega) (fun s hs=>by rw[g1,if_neg hs])
   rw[tJ]at AF
   have Cn:AU {b with CU:=xA} {K' with us:=K'.us.set t (K'.use t-1)} ord af tr:={hO with us:=oR,ul:=by simp;exact hO.ul}
   have Bc:wZ {K' with us:=K'.us.set t (K'.use t-1)} K:=⟨gw.N,gw.n,gw.cap,gw.ho,fun s=>by
    show(K'.us.set t (K'.use t-1)).getD s 0≤_
    rw[g1]
    have:=gw.us s
    split
    ·rename_i e;subst e;omega
    ·exact this,fun hi s hs=>by
    show(K'.us.set t (K'.use t-1)).getD s 0=0
    have hs':K'.N s=none:=hs
    rw[g1,if_neg (fun e=>by subst e;rw[hd]at hs';cases hs')]
    exact gw.idle hi s hs'⟩
   have Ck:PL (dI P0 pre) K'.N:=fun s hs h0=>DA s hs (by unfold dI at h0⊢;rw[List.count_append];omega)
   refine Nil.ptr ?_
   refine Ld.f ?_
   refine oR.ld (x:=((K'.use t-1:Nat):Int)) (by rw[←ej];simp[hfit]) (aT.sub (.app (.cons (.app (.app .left))))) ?_
   refine ae.og (b:=0) (Br.dec (fun h3=>?_) (fun h3=>?_))
   ·refine fT.back (.refl _) hkm (3*K'.used+pre.length) ⟨w',Ct,_,pre,_,rfl,rfl,BF,⟨_,rfl,Cn⟩,AF,fun s e hs=>?_,Ck,Bc,EU,rfl,by simp at hk;omega⟩ (by rw[hk];simp)
    show 0<(K'.us.set t (K'.use t-1)).getD s 0
    rw[g1]
    split
    ·exact h3
    ·exact wh s e hs
   ·have Ht:K'.use t=1:=by omega
    have oU:cB kp {K' with us:=K'.us.set t (K'.use t-1)} ord af tr (({b with CU:=xA}:mE).hp kp K'.n):=⟨_,rfl,Cn⟩
    refine aa.eq (jY oU (by omega)) ?_
    have Fh:2≤t:=by omega
    have EA:got K'.N t=dB d:=dh hd Fh
    show dR _ _ _
    intro JO _
    rw[EA]
    refine St.p (fun x hx=>by simp[dB,u32]at hx;rcases hx with rfl|rfl|rfl<;>rfl) ?_
    refine DR.self ?_
    refine Nil.ptr ?_
    refine Ld.f ?_
    refine aB.q ?_
    have EW:K'.T d=some t:=(hM.kV d t).2 ⟨hd,fun h=>h⟩
    refine aa.fq (sY Cn.ut (hM.var hd) EW) ?_
    rintro v FI ⟨rfl,Ed⟩
    refine Nil.ptr ?_
    refine Ld.f ?_
    refine aa.fq (wW Cn.ar ⟨d,hd⟩ Fh) ?_
    rintro v FJ ⟨rfl,ER⟩
    refine Ld.f ?_
    refine Ld.f ?_
    refine an.zh (e:=110) (by kernel_rfl) (by kernel_rfl) (by kernel_rfl) fun bz=>?_
    refine BF.zL (.cons (.cons .left)) (dw.block (l:=[(d.lo:Int),(d.hi:Int)]) (by exact .head _) (by simp)) (by simp at hk⊢;omega) (by simp at hk⊢;omega) fun w2 I9 F9=>?_
    have e0:iw pre++[(d.lo:Int),(d.hi:Int)]=iw (pre++[d.lo,d.hi]):=by rw[cM];rfl
    rw[e0]at F9
    have Ee:({K' with us:=K'.us.set t (K'.use t-1)}:Kd).use t=0:=by show(K'.us.set t (K'.use t-1)).getD t 0=0;rw[g1,if_pos rfl];omega
    have Ba:=AF.free (r:=t) (d:=d) hd (fun h=>h) Ee
    have B5:bN K'.N t K'.cap=0:=by have:=AF.use hd;rw[Ee]at this;exact(by have h5:bN K'.N t K'.cap+_+_=0:=this.symm;omega)
    have dF:=fi B5 t (hM.two hd).2 d hd
    have EX:dI P0 pre t=0:=by have:=AF.use hd;rw[Ee]at this;omega
    have hroom:0<K'.used:=by have:=hM.room;omega
    have hlt:∀x,live K'.N x→x<1048576:=fun x hx=>oU.lt hx
    have gk:∀s,2≤s→dI P0 pre s+e1 (some d) s=dI P0 (pre++[d.lo,d.hi]) s:=fun s _=>by
     unfold dI
     rw[dG,List.count_append,List.count_cons,List.count_cons,List.count_nil]
     simp only[beq_iff_eq]
     omega
    refine fT.back (.skip (.skip (.refl _))) hkm (3*(K'.used-1)+(pre++[d.lo,d.hi]).length) ⟨w2,I9,_,pre++[d.lo,d.hi],{K' with us:=K'.us.set t (K'.use t-1),N:=up K'.N t none,T:=rO K'.T d none,used:=K'.used-1},rfl,rfl,F9,
     ⟨{b with CU:=xA,CT:=FI,CA:=FJ},rfl,{Cn with ar:=ER,ut:=Ed}⟩,Ba.congr (fun _=>Iff.rfl) gk,fun s e hs=>?_,fun s hs h0=>?_,⟨fun{s e} hs=>?_,Bc.n,Bc.cap,Bc.ho,Bc.us,fun hi s hs=>?_⟩,fun s hs=>?_,rfl,by simp at hk⊢;omega⟩ (by simp at hk⊢;omega)
    ·have hne:s≠t:=fun e2=>by subst e2;have n9:up K'.N s none s=some e:=hs;rw[ay]at n9;cases n9
     show 0<(K'.us.set t (K'.use t-1)).getD s 0
     rw[g1,if_neg hne]
     have n9:up K'.N t none s=some e:=hs
     rw[aC hne]at n9
     exact wh s e n9
    ·have hne:s≠t:=fun e2=>by
      subst e2
      rw[←gk s hs,EX]at h0
      rw[dG,if_neg dF.1,if_neg dF.2]at h0
      omega
     show∃e,up K'.N t none s=some e
     rw[aC hne]
     rw[←gk s hs]at h0
     by_cases h5:0<dI P0 pre s
     ·exact Ck s hs h5
     ·rw[dG]at h0
      have:d.lo=s∨d.hi=s:=by
       by_cases h6:d.lo=s
       ·exact .inl h6
       ·by_cases h7:d.hi=s
        ·exact .inr h7
        ·rw[if_neg h6,if_neg h7]at h0;omega
      rcases this with rfl|rfl
      ·rcases hM.lo hd with h8|h8
       ·omega
       ·exact h8
      ·rcases hM.hi hd with h8|h8
       ·omega
       ·exact h8
    ·have n9:up K'.N t none s=some e:=hs
     by_cases e2:s=t
     ·subst e2;rw[ay]at n9;cases n9
     ·rw[aC e2]at n9;exact gw.N n9
    ·have n9:up K'.N t none s=none:=hs
     show(K'.us.set t (K'.use t-1)).getD s 0=0
     by_cases e2:s=t
     ·subst e2;rw[g1,if_pos rfl];omega
     ·rw[aC e2]at n9
      exact Bc.idle hi s n9
    ·rcases List.mem_append.1 hs with hs|hs
     ·exact EU s hs
     ·simp at hs
      rcases hs with rfl|rfl
      ·exact hlt _ (hM.lo hd)
      ·exact hlt _ (hM.hi hd)
 ·obtain rfl:todo=[]:=List.eq_nil_of_length_eq_zero (by omega)
  exact aY.mk .right ⟨rfl,K',hK,hM.congr (fun _=>Iff.rfl) (fun s _=>by simp[dI]),wh,fun s hs h0=>DA s hs (by simpa[dI]using h0),gw⟩
end
abbrev lv(af:List Nat):Nat→Nat:=fun v=>af.getD v 0
section
variable {kp:Nat} {K:Kd} {ord af tr:List Nat} {C:Hp} {S:Nat→aq.Fn}
theorem r6(h:cB kp K ord af tr C)(v:Int):Rd Tryz.prog 210 #[ptr kp,.int .i64 v] C (· =.bool (decide (0≤v∧v<K.n))):=by
 obtain⟨b,rfl,hO⟩:=h
 refine aX fun g=>qX ?_
 refine ae.geq ?_
 refine cW.and (decide (v<K.n)) (fun _=>?_) rfl fun _=>bF.mk (.refl _) (by rw[Bool.decide_and])
 refine Nil.ptr ?_
 refine Ld.f ?_
 exact ae.lss ⟨rfl,rfl⟩
theorem l8(h:cB kp K ord af tr C){r:Nat}(hl:live K.N r)(hv:∀d,K.N r=some d→d.v<K.n)(DI:r<2→K.N r=none):Rd Tryz.prog 319 #[ptr kp,u32 r] C (· =.int .i64 ((dep K.n (lv af) K.N r:Nat):Int)):=by
 have h0:=h
 have hr:=h.lt hl
 obtain⟨b,rfl,hO⟩:=h
 refine aX fun g=>qp ?_
 refine Nil.ptr (aj.mk ?_)
 refine aa.eq (jY h0 (by omega)) ?_
 intro b5 _
 refine St.whole (r:=got K.N r) (by exact .head _) rfl (aJ _ _).1 (aJ _ _).2 ?_
 by_cases h2:r<2
 ·rw[dL h2,aO (DI h2)]
  refine Ld.f ?_
  refine ae.geq (Br.D3 (by decide) ?_)
  refine Nil.ptr ?_
  refine Ld.f ?_
  exact bF.mk .tail rfl
 ·obtain⟨d,hd⟩:∃d,K.N r=some d:=by rcases hl with hl|hl;omega;exact hl
  rw[dh hd (by omega),ag hd]
  have tt:=hv d hd
  have hlen:=hO.ol.2
  refine Ld.f ?_
  refine ae.geq (Br.zV (by simp) ?_)
  refine Nil.ptr ?_
  refine Ld.f ?_
  refine Ld.f ?_
  refine hO.lv.ld (x:=((af.getD d.v 0:Nat):Int)) (bH (by omega)) (aT.sub (.cons (.cons (.app (.app (.app (.app (.app .left)))))))) ?_
  exact bF.mk .tail rfl
def gx(K:Kd)(af:List Nat)(v:Int)(lo hi:Nat):Int:=
 if¬(0≤v∧v<K.n)then 2 else if cL K.N lo=false∨cL K.N hi=false then 3 else if lo≠hi∧min (dep K.n (lv af) K.N lo) (dep K.n (lv af) K.N hi)≤af.getD v.toNat 0 then 4 else 0
theorem su(h:cB kp K ord af tr C)(v:Int){lo hi:Nat}(hlo:lo<4294967296)(hhi:hi<4294967296)(hv:∀r d,K.N r=some d→d.v<K.n∧2≤r):
  Rd Tryz.prog 243 #[ptr kp,.int .i64 v,u32 lo,u32 hi] C (· =.int .i64 (gx K af v lo hi)):=by
 have h0:=h
 have DI:∀r,r<2→K.N r=none:=fun r hr=>by
  cases e:K.N r with
  |none=>rfl
  |some d=>have:=(hv r d e).2;omega
 obtain⟨b,rfl,hO⟩:=h
 refine aX fun g=>qM ?_
 refine aa.eq (r6 h0 v) ?_
 refine Un.not ?_
 by_cases vM:0≤v∧v<K.n
 rotate_left
 ·rw[decide_eq_false vM]
  exact Br.yes (bF.mk (.refl _) (by unfold gx;rw[if_pos vM]))
 rw[decide_eq_true vM]
 refine Br.no ?_
 obtain⟨n,rfl⟩:∃n:Nat,v=n:=⟨v.toNat,by omega⟩
 have Jx:n<K.n:=by omega
 intro J hJ
 refine Nil.ptr (aj.mk ?_)
 refine aa.eq (fJ h0 hlo) ?_
 refine Un.not ?_
 by_cases ti:cL K.N lo=true
 rotate_left
 ·have BW:cL K.N lo=false:=by simpa using ti
  rw[BW]
  exact Split.Bt rfl (ax.mk (JE.mk (hJ _ _ fun gs=>Br.yes (bF.mk (.refl _) (by unfold gx;rw[if_neg (by simpa using vM),if_pos (.inl BW)])))))
 rw[ti]
 refine Split.go rfl ?_
 refine Nil.ptr (aj.mk ?_)
 refine aa.eq (fJ h0 hhi) ?_
 refine Un.not ?_
 by_cases Ds:cL K.N hi=true
 rotate_left
 ·have B2:cL K.N hi=false:=by simpa using Ds
  rw[B2]
  exact ax.mk (JE.mk (hJ _ _ fun gs=>Br.yes (bF.mk (.refl _) (by unfold gx;rw[if_neg (by simpa using vM),if_pos (.inr B2)]))))
 rw[Ds]
 refine ax.mk (JE.mk (hJ _ _ fun gs=>Br.no ?_))
 intro J2 AH
 have hE:gx K af n lo hi=if lo≠hi∧min (dep K.n (lv af) K.N lo) (dep K.n (lv af) K.N hi)≤af.getD n 0 then 4 else 0:=by
  unfold gx
  rw[if_neg (by simpa using vM),if_neg (by rw[ti,Ds];simp)]
  rfl
 refine DR.self ?_
 refine ae.D4 ?_
 by_cases hne:lo≠hi
 rotate_left
 ·rw[decide_eq_false hne]
  exact Br.no (JE.mk (AH _ _ fun gs=>Br.no (bF.mk (.refl _) (by rw[hE,if_neg (fun h=>hne h.1)]))))
 rw[decide_eq_true hne]
 refine Br.yes ?_
 refine Nil.ptr ?_
 refine Ld.f ?_
 have hlen:=hO.ol.2
 refine hO.lv.ld (x:=((af.getD n 0:Nat):Int)) (bH (by omega)) (aT.sub (.cons (.app (.app (.app (.app (.app .left))))))) ?_
 intro F
 refine aa.eq (l8 h0 (bc.1 ti) (fun d hd=>(hv _ _ hd).1) (DI _)) ?_
 refine⟨.refl _,?_⟩
 intro F2
 refine aa.eq (l8 h0 (bc.1 Ds) (fun d hd=>(hv _ _ hd).1) (DI _)) ?_
 refine⟨.refl _,?_⟩
 refine⟨_,_,_,rfl,rfl,?_⟩
 have hmin:(if((dep K.n (lv af) K.N hi:Nat):Int)<((dep K.n (lv af) K.N lo:Nat):Int)then((dep K.n (lv af) K.N hi:Nat):Int)else((dep K.n (lv af) K.N lo:Nat):Int))=((min (dep K.n (lv af) K.N lo) (dep K.n (lv af) K.N hi):Nat):Int):=by
  split<;>omega
 rw[hmin]
 refine ae.m6 ?_
 refine ax.mk ?_
 by_cases hm:min (dep K.n (lv af) K.N lo) (dep K.n (lv af) K.N hi)≤af.getD n 0
 ·rw[decide_eq_true hm]
  exact JE.mk (AH _ _ fun gs=>Br.yes (bF.mk (.refl _) (by rw[hE,if_pos ⟨hne,hm⟩])))
 ·rw[decide_eq_false hm]
  exact JE.mk (AH _ _ fun gs=>Br.no (bF.mk (.refl _) (by rw[hE,if_neg (fun h=>hm h.2)])))
theorem rR(h:cB kp K ord af tr C){v lo hi:Nat}(hv:v<K.n):
  Rd Tryz.prog 244 #[ptr kp,.int .i64 (v:Int),u32 lo,u32 hi] C (· =if lo=hi then .tuple #[u32 lo,.bool true]else .tuple #[u32 ((K.T ⟨v,lo,hi⟩).getD 0),.bool (K.T ⟨v,lo,hi⟩).isSome]):=by
 obtain⟨b,rfl,hO⟩:=h
 refine aX fun g=>qL ?_
 refine ae.lg (Br.dec (fun he=>bF.mk (.refl _) (by rw[if_pos he])) (fun he=>?_))
 refine Nil.ptr (aj.mk ?_)
 refine Ld.f ?_
 refine Build.mk (cs:=dB ⟨v,lo,hi⟩) (by kernel_rfl) ?_
 refine aa.eq (yL (d:=⟨v,lo,hi⟩) hO.ut hv) ?_
 exact Ext.mk rfl (Ext.mk rfl (bF.mk (.refl _) (by rw[if_neg he];rfl)))
theorem n5(h:cB kp K ord af tr C){r:Nat}(hr:r<4294967296)(hb:∀s,K.hold s<2147483648):Rd Tryz.prog 198 #[ptr kp,u32 r] C (· =.int .i64 ((K.hold r:Nat):Int)):=by
 obtain⟨b,rfl,hO⟩:=h
 refine aX fun g=>q9 ?_
 refine ae.bC ?_
 refine cW.or (decide (K.ho.length≤r)) (fun _=>?_) (by simp) fun _=>?_
 ·refine bt.q (Nil.ptr (aj.mk ?_))
  refine Ld.f ?_
  refine hO.ho.cN ?_
  rw[aE]
  exact ae.m6 ⟨rfl,rfl⟩
 ·rw[Bool.false_or]
  refine Br.dec (fun hge=>?_) (fun hlt=>?_)
  ·refine bF.mk (.refl _) ?_
   unfold Kd.hold;rw[List.getD,List.getElem?_eq_none hge];rfl
  ·refine Nil.ptr (aj.mk ?_)
   refine Ld.f ?_
   refine hO.ho.ld (x:=((K.hold r:Nat):Int)) (bH (by omega)) (aT.sub (.cons (.app (.app (.app .left))))) ?_
   refine bt.nat (by have:=hb r;simp[cO];omega) ?_
   exact bF.mk (.refl _) rfl
theorem nY(h:cB kp K ord af tr C):Rd Tryz.prog 185 #[ptr kp] C (· =.int .i64 ((K.n:Nat):Int)):=by
 obtain⟨b,rfl,hO⟩:=h
 refine aX fun g=>ri ?_
 refine ae.bC (Br.no (Nil.ptr ?_))
 refine Ld.f ?_
 exact bF.mk (.refl _) rfl
theorem g8(h:cB kp K ord af tr C){r:Nat}(hr:r<4294967296):Rd Tryz.prog 249 #[ptr kp,u32 r] C (· =.tuple #[.agg (got K.N r).toArray,.int .i64 (if cL K.N r then 0 else 3)]):=by
 have h0:=h
 obtain⟨b,rfl,hO⟩:=h
 refine aX fun g=>qG ?_
 intro b1 _
 refine ae.bC (Br.no (Nil.ptr (aj.mk ?_)))
 refine aa.eq (fJ h0 hr) ?_
 refine Un.not ?_
 cases hb:cL K.N r with
 |false=>
  refine Br.yes ?_
  refine Build.mk (cs:=[.int .i64 0,.int .u32 0,.int .u32 0]) (by kernel_rfl) ?_
  refine St.q ?_
  refine aB.q ?_
  exact bF.mk .tail (by rw[om hb];rfl)
 |true=>
  refine Br.no (Nil.ptr (aj.mk ?_))
  refine aa.eq (jY h0 hr) ?_
  refine St.whole (r:=got K.N r) (by exact .head _) rfl (aJ _ _).1 (aJ _ _).2 ?_
  refine aB.whole (r:=got K.N r) (by exact .head _) (aJ _ _).1 ?_
  exact bF.mk .tail rfl
end
theorem oG{B:Hp}{v:Value}{l:List Int}(h:dw .i64 B v l)(hl:l.length≤1099511627776):Fc Tryz.prog 71 #[v] B (fun r H=>∃C,H=C++B∧au 3 .i64 r l C):=by
 refine aX fun g=>uh ?_
 obtain⟨a,c,rfl,hc⟩:=h.shape
 refine⟨.bool a.isNone,by simp[dW],?_⟩
 refine Br.mk (fun ha=>?_) (fun ha=>?_)
 ·have:l=[]:=by
   rcases h.2 with⟨_,_,h1,h2⟩|⟨b,o,cap,cs,T,fz,h1,_⟩
   ·simpa using h2
   ·simp at h1;rw[h1.1]at ha;simp at ha
  subst this
  exact aY.here ⟨[],rfl,au.nil⟩
 ·refine an.none (z:=.int .i64 0) (e:=3) (k:=1) (by kernel_rfl) (by kernel_rfl) (by kernel_rfl) fun b=>?_
  refine(au.made (T:=3) (kd:=.i64) (b:=b) []).zL (l2:=l) .left ((show dw .i64 B _ l from h).mono fun _ h=>.tail _ h) (by simp;omega) (by simp;omega) fun v' C' ho=>?_
  exact aY.here ⟨C',rfl,by simpa using ho⟩
theorem l6{kp:Nat}{K:Kd}{ord af tr:List Nat}{C:Hp}(h:cB kp K ord af tr C):Fc Tryz.prog 65 #[ptr kp] C (fun r H=>∃N,H=N++C∧au 3 .i64 r (iw ord) N):=by
 obtain⟨b,rfl,hO⟩:=h
 refine aX fun g=>uo ?_
 refine ae.bC (Br.no (Nil.ptr ?_))
 refine Ld.f ?_
 refine aa.fq (oG (hO.od.ints.mono (aT.sub (.cons (.app (.app (.app (.app .left))))))) (by have:=hO.ol.1;have:=hO.ze;simp;omega)) ?_
 rintro v C' ⟨N,rfl,ho⟩
 exact aY.here ⟨N,rfl,ho⟩
end Go.Proofs
set_option maxRecDepth 100000
namespace Go.Proofs
open Go Go.Sx
def mF(x r:Nat):Prop:=x<2^r∧(r=0∨2^(r-1)≤x)
theorem mF.up{x s t:Nat}(h:mF (x>>>s) t)(h0:s=0∨x>>>s≠0):mF x (s+t):=by
 rw[Nat.shiftRight_eq_div_pow]at h h0
 have hp:=Nat.two_pow_pos s
 refine⟨?_,?_⟩
 ·have:=h.1
  rw[Nat.div_lt_iff_lt_mul hp]at this
  rw[Nat.pow_add,Nat.mul_comm];exact this
 ·rcases h.2 with h2|h2
  ·subst h2
   have:=h.1
   rcases h0 with h0|h0
   ·exact .inl (by omega)
   ·rw[Nat.pow_zero]at this;exact absurd (Nat.lt_one_iff.1 this) h0
  ·by_cases ht:t=0
   ·subst ht
    rcases h0 with h0|h0
    ·exact .inl (by omega)
    ·have:=h.1;rw[Nat.pow_zero]at this;exact absurd (Nat.lt_one_iff.1 this) h0
   ·right
    have:=(Nat.le_div_iff_mul_le hp).1 h2
    rw[show s+t-1=(t-1)+s by omega,Nat.pow_add];exact this
theorem yf:∀y:Fin 256,∃b:UInt8,(ByteArray.mk #[0,1,2,2,3,3,3,3,4,4,4,4,4,4,4,4,5,5,5,5,5,5,5,5,5,5,5,5,5,5,5,5,6,6,6,6,6,6,6,6,6,6,6,6,6,6,6,6,6,6,6,6,6,6,6,6,6,6,6,6,6,6,6,6,7,7,7,7,7,7,7,7,7,7,7,7,7,7,7,7,7,7,7,7,7,7,7,7,7,7,7,7,7,7,7,7,7,7,7,7,7,7,7,7,7,7,7,7,7,7,7,7,7,7,7,7,7,7,7,7,7,7,7,7,7,7,7,7,8,8,8,8,8,8,8,8,8,8,8,8,8,8,8,8,8,8,8,8,8,8,8,8,8,8,8,8,8,8,8,8,8,8,8,8,8,8,8,8,8,8,8,8,8,8,8,8,8,8,8,8,8,8,8,8,8,8,8,8,8,8,8,8,8,8,8,8,8,8,8,8,8,8,8,8,8,8,8,8,8,8,8,8,8,8,8,8,8,8,8,8,8,8,8,8,8,8,8,8,8,8,8,8,8,8,8,8,8,8,8,8,8,8,8,8,8,8,8,8,8,8,8,8,8,8,8,8])[y.1]? =some b∧(y.1<2^b.toNat∧(b.toNat=0∨2^(b.toNat-1)≤y.1)):=by
 have h:∀y:Fin 256,(match(ByteArray.mk #[0,1,2,2,3,3,3,3,4,4,4,4,4,4,4,4,5,5,5,5,5,5,5,5,5,5,5,5,5,5,5,5,6,6,6,6,6,6,6,6,6,6,6,6,6,6,6,6,6,6,6,6,6,6,6,6,6,6,6,6,6,6,6,6,7,7,7,7,7,7,7,7,7,7,7,7,7,7,7,7,7,7,7,7,7,7,7,7,7,7,7,7,7,7,7,7,7,7,7,7,7,7,7,7,7,7,7,7,7,7,7,7,7,7,7,7,7,7,7,7,7,7,7,7,7,7,7,7,8,8,8,8,8,8,8,8,8,8,8,8,8,8,8,8,8,8,8,8,8,8,8,8,8,8,8,8,8,8,8,8,8,8,8,8,8,8,8,8,8,8,8,8,8,8,8,8,8,8,8,8,8,8,8,8,8,8,8,8,8,8,8,8,8,8,8,8,8,8,8,8,8,8,8,8,8,8,8,8,8,8,8,8,8,8,8,8,8,8,8,8,8,8,8,8,8,8,8,8,8,8,8,8,8,8,8,8,8,8,8,8,8,8,8,8,8,8,8,8,8,8,8,8,8,8,8,8])[y.1]? with|some b=>decide (y.1<2^b.toNat∧(b.toNat=0∨2^(b.toNat-1)≤y.1))|none=>false)=true:=by decide+kernel
 intro y
 have:=h y
 split at this
 ·rename_i b hb
  exact⟨b,hb,by simpa using this⟩
 ·cases this
theorem vz{x:Nat}(hx:x<18446744073709551616)(B:Hp):Rd Tryz.prog 222 #[.int .u64 (x:Int)] B (fun v=>∃r:Nat,mF x r∧v=.int .i64 (r:Int)):=by
 refine aX fun g=>qN ?_
 intro J1 E7
 have h1:∀s,s≤32→x>>>s<4294967296→(s=0∨x>>>s≠0)→J1 [.int .u64 ((x>>>s:Nat):Int),.int .i64 (s:Int)] B:=by
  intro s hs hlt h0
  refine E7 _ _ _ fun gs=>?_
  intro J2 AH
  have h2:∀s,s≤48→x>>>s<65536→(s=0∨x>>>s≠0)→J2 [.int .u64 ((x>>>s:Nat):Int),.int .i64 (s:Int)] B:=by
   intro s hs hlt h0
   refine AH _ _ _ fun gs=>?_
   intro J3 Il
   have h3:∀s,s≤56→x>>>s<256→(s=0∨x>>>s≠0)→J3 [.int .u64 ((x>>>s:Nat):Int),.int .i64 (s:Int)] B:=by
    intro s hs hlt h0
    refine Il _ _ _ fun gs=>?_
    refine bt.nat (show x>>>s<256 from hlt) ?_
    obtain⟨b,hb,hl⟩:=yf ⟨x>>>s,hlt⟩
    refine⟨_,_,_,b,rfl,rfl,Int.natCast_nonneg _,by rw[Int.toNat_natCast];exact hb,?_⟩
    have Az:b.toNat<256:=b.toNat_lt
    refine bt.q ?_
    refine ae.dX ?_
    exact bF.mk (.refl _) ⟨s+b.toNat,mF.up (t:=b.toNat) hl h0,rfl⟩
   refine ae.m6 (b:=256) (Br.dec (fun hge=>?_) (fun hge=>JE.mk (h3 s (by omega) (by omega) h0)))
   refine ae.pg (b:=8) (by simp only[cO];omega) ?_
   refine ae.dX (b:=8) ?_
   rw[←Nat.shiftRight_add]
   have e:x>>>(s+8)=x>>>s/256:=by rw[Nat.shiftRight_add,Nat.shiftRight_eq_div_pow (x>>>s) 8]
   exact JE.mk (h3 (s+8) (by omega) (by omega) (.inr (by omega)))
  refine ae.m6 (b:=65536) (Br.dec (fun hge=>?_) (fun hge=>JE.mk (h2 s (by omega) (by omega) h0)))
  refine ae.pg (b:=16) (by simp only[cO];omega) ?_
  refine ae.dX (b:=16) ?_
  rw[←Nat.shiftRight_add]
  have e:x>>>(s+16)=x>>>s/65536:=by rw[Nat.shiftRight_add,Nat.shiftRight_eq_div_pow (x>>>s) 16]
  exact JE.mk (h2 (s+16) (by omega) (by omega) (.inr (by omega)))
 refine ae.m6 (b:=4294967296) (Br.dec (fun hge=>?_) (fun hge=>JE.mk (h1 0 (by omega) (by simp;omega) (.inl rfl))))
 refine ae.pg (b:=32) (by simp only[cO];exact hx) ?_
 have e:x>>>32=x/4294967296:=by rw[Nat.shiftRight_eq_div_pow]
 exact JE.mk (h1 32 (by omega) (by omega) (.inr (by omega)))
end Go.Proofs
namespace Go.Sx
open Go
section
variable {P:Program} {H C:Hp} {c:Hp→Hp}
theorem aT.re(h:aT C H c)(X:Hp):aT X (c X) c:=by
 induction h with
 |here=>exact .here
 |left=>exact .left
 |cons _ ih=>exact .cons ih
 |app _ ih=>exact .app ih
def Dt(T:TypeId)(kd:IntKind)(v:Value)(l0:List Int)(C:Hp):Prop:=∃l:List Int,l.Perm l0∧au T kd v l C
theorem swap_perm{l:List Int}{i j:Nat}{x y:Int}(hi:l[i]? =some x)(hj:l[j]? =some y):((l.set i y).set j x).Perm l:=by
 have h1:=(List.getElem?_eq_some_iff.1 hi).1
 have h2:=(List.getElem?_eq_some_iff.1 hj).1
 rw[List.perm_iff_count]
 intro a
 by_cases e:i=j
 ·subst e
  rw[hi]at hj;cases hj
  rw[List.set_set]
  have:l.set i x=l:=by
   have hx:l[i]=x:=by rw[List.getElem?_eq_getElem h1]at hi;exact Option.some.inj hi
   rw[←hx];exact List.set_getElem_self h1
  rw[this]
 ·have hx:l[i]=x:=by rw[List.getElem?_eq_getElem h1]at hi;exact Option.some.inj hi
  have hy:l[j]=y:=by rw[List.getElem?_eq_getElem h2]at hj;exact Option.some.inj hj
  rw[List.count_set (by simpa using h2),List.count_set h1]
  have:(l.set i y)[j]'(by simpa using h2)=y:=by rw[List.getElem_set_ne e];exact hy
  rw[this,hx]
  have c1:l.count x≥1:=List.one_le_count_iff.2 (hx▸List.getElem_mem h1)
  have c2:l.count y≥1:=List.one_le_count_iff.2 (hy▸List.getElem_mem h2)
  by_cases e1:x=a
  ·subst e1
   by_cases e2:y=x
   ·subst e2;simp<;>omega
   ·simp[e2,Ne.symm e2]<;>omega
  ·by_cases e2:y=a
   ·subst e2;simp[e1]<;>omega
   ·simp[e1,e2]<;>omega
theorem Dt.ld{T:TypeId}{kd mW:IntKind}{v:Value}{l0:List Int}(h:Dt T kd v l0 C)(hC:∀y∈C,y∈H){i:Nat}(hi:i<l0.length){K:Value→Prop}(hk:∀x,K (.int kd x)):ah 1 v (.int mW (i:Int)) fun p=>Ld H p K:=by
 obtain⟨l,hp,ho⟩:=h
 have:i<l.length:=by rw[hp.length_eq];exact hi
 exact ho.ld (List.getElem?_eq_getElem this) hC (hk _)
theorem Dt.swap{T:TypeId}{kd k1 k2 k3 k4:IntKind}{v:Value}{l0:List Int}(h:Dt T kd v l0 C)(hh:aT C H c){i j:Nat}(hi:i<l0.length)(hj:j<l0.length){K:Hp→Prop}(hk:∀C',Dt T kd v l0 C'→K (c C')):
  ah 1 v (.int k1 (j:Int)) fun p1=>Ld H p1 fun x=>ah 1 v (.int k2 (i:Int)) fun p2=>Ld H p2 fun y=>ah 1 v (.int k3 (i:Int)) fun p3=>St 1 H p3 x fun H1=>ah 1 v (.int k4 (j:Int)) fun p4=>St 1 H1 p4 y K:=by
 obtain⟨l,hp,ho⟩:=h
 have hl:=hp.length_eq
 have hi':l[i]? =some l[i]:=List.getElem?_eq_getElem (by omega)
 have hj':l[j]? =some l[j]:=List.getElem?_eq_getElem (by omega)
 refine ho.ld hj' hh.sub ?_
 refine ho.ld hi' hh.sub ?_
 refine ho.iI hh (by omega) fun C1 h1=>?_
 refine h1.iI (hh.re C1) (by simp;omega) fun C2 h2=>?_
 exact hk C2 ⟨_,(swap_perm hi' hj').trans hp,h2⟩
theorem Dt.Bl{T:TypeId}{kd k1 k2 k3 k4:IntKind}{v:Value}{l0:List Int}(h:Dt T kd v l0 C)(hh:aT C H c){i j:Nat}(hi:i<l0.length)(hj:j<l0.length){B:(Value→Prop)→Prop}
 (hB:∀k:Value→Prop,k (.int k2 (i:Int))→B k){K:Hp→Prop}(hk:∀C',Dt T kd v l0 C'→K (c C')):
  ah 1 v (.int k1 (j:Int)) fun p1=>Ld H p1 fun x=>B fun u=>ah 1 v u fun p2=>Ld H p2 fun y=>ah 1 v (.int k3 (i:Int)) fun p3=>St 1 H p3 x fun H1=>ah 1 v (.int k4 (j:Int)) fun p4=>St 1 H1 p4 y K:=by
 obtain⟨l,hp,ho⟩:=h
 have hl:=hp.length_eq
 have hi':l[i]? =some l[i]:=List.getElem?_eq_getElem (by omega)
 have hj':l[j]? =some l[j]:=List.getElem?_eq_getElem (by omega)
 refine ho.ld hj' hh.sub (hB _ ?_)
 refine ho.ld hi' hh.sub ?_
 refine ho.iI hh (by omega) fun C1 h1=>?_
 refine h1.iI (hh.re C1) (by simp;omega) fun C2 h2=>?_
 exact hk C2 ⟨_,(swap_perm hi' hj').trans hp,h2⟩
theorem au.dt{T:TypeId}{kd:IntKind}{v:Value}{l:List Int}(h:au T kd v l C):Dt T kd v l C:=⟨l,.refl _,h⟩
def DT(vs:List Value):Nat:=match vs with
 | .int _ q::_=>(q+1).toNat
 |_=>0
theorem mL{k:IntKind}{q:Int}{r:List Value}:DT (.int k q::r)=(q+1).toNat:=rfl
end
end Go.Sx
namespace Go.Sx
open Go
section
variable {P:Program} {g:Gh} {F:Fence} {n:Nat} {ops:Array Oper} {Q:Exit→Act→World→Prop} {rest:List Oper} {o:Oper} {a:Act} {fr:Fr} {w:World} {H:Hp}
abbrev oP(ds:List Deferred)(n:Nat)(a:Act)(fr:Fr):Prop:=aZ ds n a fr
variable {ds:List Deferred}
theorem oP.put(h:oP ds n a fr){d:Option Nat}(hd:bS n d=true)(v:Value):oP ds n (a.put d v) (aP fr d v):=aZ.put h hd v
theorem dM{v0:Value}(hF:∀f,F.fn f)(hg:o.guard=none)(j6:∀c,o.op≠.defer c)(hd:bS n o.dst=true)(ha:oP ds n a fr)(hw:Own g H w)(h:rV P g o (ev fr) H (· =v0))
 (k:∀a',oP ds n a' (aP fr o.dst v0)→wpListIn F 0 P ops Q rest a' w):wpListIn F 0 P ops Q (o::rest) a w:=by
 refine wpListIn_plain hg fun K hK=>⟨fun f _=>hF f,?_⟩
 rw[Oper.semAt_eq _ _ _ j6,ha.eval]
 obtain⟨v,hv,hr,_⟩:=mP h
 rw[hr w hw]
 subst hv
 exact hK _ _ (k _ (ha.put hd _))
theorem rP{s:Sem Value}{K:Value→Hp→Prop}(hF:∀f,F.fn f)(hg:o.guard=none)(j6:∀c,o.op≠.defer c)(hd:bS n o.dst=true)(ha:oP ds n a fr)(he:execOp (ev fr) o=(do pure (.value (←s))))
 (h:∃v w' H',s.run P w=.ok v w'∧Own g H' w'∧K v H')
 (k:∀v H' w' a',K v H'→Own g H' w'→oP ds n a' (aP fr o.dst v)→wpListIn F 0 P ops Q rest a' w'):wpListIn F 0 P ops Q (o::rest) a w:=by
 refine wpListIn_plain hg fun K hK=>⟨fun f _=>hF f,?_⟩
 rw[Oper.semAt_eq _ _ _ j6,ha.eval,he]
 obtain⟨v,w',H',hr,ho,hk⟩:=h
 simp only[Sem.run_bind,hr,Result.andThen_ok,Sem.run_pure]
 exact hK _ _ (k v H' w' _ hk ho (ha.put hd _))
theorem uW{s:Sem Value}{K:Value→Hp→Prop}(hF:∀f,F.fn f)(hg:o.guard=none)(j6:∀c,o.op≠.defer c)(hd:bS n o.dst=true)(ha:oP ds n a fr)(hw:Own g H w)(he:execOp (ev fr) o=(do pure (.value (←s))))
 (h:xj P g o (ev fr) H K (fun _ _=>False))
 (k:∀v H' w' a',K v H'→Own g H' w'→oP ds n a' (aP fr o.dst v)→wpListIn F 0 P ops Q rest a' w'):wpListIn F 0 P ops Q (o::rest) a w:=by
 have h1:=jN (gh fr) h w hw
 rw[he]at h1
 refine rP (g:=g) (K:=K) hF hg j6 hd ha he ?_ k
 cases hs:s.run P w with
 |ok v w'=>
  simp only[Sem.run_bind,hs,Result.andThen_ok,Sem.run_pure,iB]at h1
  obtain⟨H',ho,hk⟩:=h1
  exact⟨v,w',H',rfl,ho,hk⟩
 |halt x w'=>
  simp only[Sem.run_bind,hs,Result.andThen]at h1
  cases x<;>simp only[iB]at h1
  obtain⟨_,_,hk⟩:=h1;exact hk.elim
theorem Bm{s:Sem Unit}{K:Value→Hp→Prop}(hF:∀f,F.fn f)(hg:o.guard=none)(j6:∀c,o.op≠.defer c)(hd:bS n o.dst=true)(ha:oP ds n a fr)(hw:Own g H w)(he:execOp (ev fr) o=(do s;pure .skip))
 (h:xj P g o (ev fr) H K (fun _ _=>False))
 (k:∀H' w' a',K undef H'→Own g H' w'→oP ds n a' (aP fr o.dst undef)→wpListIn F 0 P ops Q rest a' w'):wpListIn F 0 P ops Q (o::rest) a w:=by
 have h1:=jN (gh fr) h w hw
 rw[he]at h1
 refine wpListIn_plain hg fun K hK=>⟨fun f _=>hF f,?_⟩
 rw[Oper.semAt_eq _ _ _ j6,ha.eval,he]
 cases hs:s.run P w with
 |ok v w'=>
  simp only[Sem.run_bind,hs,Result.andThen_ok,Sem.run_pure,iB]at h1⊢
  obtain⟨H',ho,hk⟩:=h1
  exact hK _ _ (k H' w' _ hk ho (ha.put hd _))
 |halt x w'=>
  simp only[Sem.run_bind,hs,Result.andThen]at h1
  cases x<;>simp only[iB]at h1
  obtain⟨_,_,hk⟩:=h1;exact hk.elim
theorem kH{m:Nat}{args:List Value}(hl:args.length≤m):oP [] m {tmps:=args.toArray++Array.replicate (m-args.toArray.size) undef,defers:=[]} (dO args 0):=by
 refine⟨rfl,by simp;omega,fun s=>?_⟩
 rw[fe,Array.getD_eq_getD_getElem?,Array.getElem?_append]
 simp only[List.size_toArray,Nat.not_lt_zero,if_false,Nat.sub_zero]
 by_cases hs:s<args.length
 ·simp[hs,List.getD]
 ·rw[if_neg hs,Array.getElem?_replicate]
  have:args.getD s undef=undef:=by simp[List.getD,List.getElem?_eq_none (Nat.le_of_not_lt hs)]
  rw[this]
  split<;>rfl
theorem Own.putObj{g:Gh}{H H':Hp}{w:World}{b:Nat}{o o':Obj}(h:Own g H w)(u:cv b o o' H H'):Own g H' (w.putObj b o'):=by
 have hb:=h.lt u.mem
 exact h.aP u rfl rfl rfl (World.putObj_heap_same hb) fun c hc=>World.putObj_heap_other hc
def sJ{α:Type}(P:Program)(f:FuncId)(cap:Array Value)(B:Hp)(enc:α→Value)(N:Nat)(S:List α→Prop):Prop:=
 ∀(g:Gh) (l:Nat) (G:List α→Hp→Prop),
  (∀ss x A X W,G ss A→ss.length<N→Own g (A++X) W→YieldAt Fence.wide 0 P l #[enc x] W (fun e W'=>e=.returned (.bool true)∧∃A',G (ss++[x]) A'∧Own g (A'++X) W'))→
  ∀A W,G [] A→Own g (A++B) W→CallsIn Fence.wide 0 P f (#[.func (.yield l) #[] #[]]++cap) W (fun e W'=>(∃v,e=.returned v)∧∃ss A',S ss∧G ss A'∧Own g (A'++B) W')
open Classical in
noncomputable def g6(p:Nat→Prop):Nat:=if h:∃k,p k then Classical.choose (eE h)else 0
theorem pB{p:Nat→Prop}{k:Nat}(h:p k):g6 p≤k:=by
 unfold g6
 rw[dif_pos ⟨k,h⟩]
 exact(Classical.choose_spec (eE ⟨k,h⟩)).2 k h
theorem mT{p:Nat→Prop}(h:∃k,p k):p (g6 p):=by
 unfold g6
 rw[dif_pos h]
 exact(Classical.choose_spec (eE h)).1
theorem oY{c:Code}(J:Nat→Act→World→Prop){k:Nat}(h0:J k a w)
 (round:∀k a w,J k a w→c.wpIn F 0 P (Exit.then (fun a' w'=>∃k',k'<k∧J k' a' w') Q) a w):(Code.loop c).wpIn F 0 P Q a w:=by
 refine wpIn_loop (fun a w=>∃k,J k a w) (fun a w=>g6 fun k=>J k a w) ⟨k,h0⟩ fun a w h=>?_
 refine Code.wpIn_mono (fun e a' w' hq=>?_) (round _ a w (mT h))
 cases e with
 |normal=>
  obtain⟨k',hlt,hj⟩:=hq
  exact⟨⟨k',hj⟩,Nat.lt_of_le_of_lt (pB hj) hlt⟩
 |_=>exact hq
end
end Go.Sx
set_option maxRecDepth 100000
namespace Go.Proofs
open Go Go.Sx
open aq
section
variable {f:FuncId} {cap:Array Value} {B:Hp} {N:Nat} {S:List Nat→Prop}
theorem xU{l':List Int}{ss:List Nat}(h:l'.Perm (iw ss)):∃l:List Nat,l.Perm ss∧l'=iw l:=by
 refine⟨l'.map Int.toNat,?_,?_⟩
 ·have:=h.map Int.toNat
  rw[iw,List.map_map]at this
  have e:(Int.toNat∘(Nat.cast:Nat→Int))=id:=by funext x;simp
  rw[e,List.map_id]at this
  exact this
 ·unfold iw
  rw[List.map_map]
  have:∀x∈l',((Nat.cast:Nat→Int)∘Int.toNat) x=x:=fun x hx=>by
   obtain⟨n,_,rfl⟩:=List.mem_map.1 (h.mem_iff.1 hx)
   simp
  rw[List.map_congr_left this,List.map_id']
end
end Go.Proofs
set_option maxRecDepth 100000
namespace Go.Proofs
open Go Go.Sx
open aq
def Idle(K:Kd):Prop:=∀s,K.N s=none→K.use s=0
theorem uN{K:Kd}{S:Nat→aq.Fn}{E:Nat→Prop}{P:Nat→Nat}(hm:gi K S E P)(hi:Idle K){M:Nat}(hP:∀s,P s≤M)(s:Nat):K.use s≤2097153+M:=by
 cases h:K.N s with
 |none=>rw[hi s h];omega
 |some d=>
  rw[hm.use h]
  have:=ow (N:=K.N) (r:=s) K.cap
  have:=hm.cap.2
  have:=hP s
  split<;>omega
section
variable {kp:Nat} {K:Kd} {ord af tr:List Nat} {C:Hp} {S:Nat→aq.Fn}
structure Kept(K:Kd)(S:Nat→aq.Fn)(K':Kd)(S':Nat→aq.Fn):Prop where
 n:K'.n=K.n
 cap:K'.cap=K.cap
 hold:∀r,K'.hold r=K.hold r
 held:∀g,K'.held S' g↔K.held S g
 fn:∀r,K.hold r≠0→S' r=S r
end
structure ct(kp:Nat)(K:Kd)(S:Nat→aq.Fn)(ord af tr:List Nat)(C:Hp):Prop where
 rep:cB kp K ord af tr C
 ok:Ok K S (lv af)
 od:Ord K.n (lv af) ord
 idle:Idle K
 tr:CZ K.n K.cap (K.held S) ord tr.reverse
theorem Kept.refl(K:Kd)(S:Nat→aq.Fn):Kept K S K S:=⟨rfl,rfl,fun _=>rfl,fun _=>Iff.rfl,fun _ _=>rfl⟩
theorem Kept.trans{K K' K2:Kd}{S S' S2:Nat→aq.Fn}(h:Kept K S K' S')(h':Kept K' S' K2 S2):Kept K S K2 S2:=
 ⟨h'.n.trans h.n,h'.cap.trans h.cap,fun r=>(h'.hold r).trans (h.hold r),fun g=>(h'.held g).trans (h.held g),fun r hr=>(h'.fn r (by rw[h.hold];exact hr)).trans (h.fn r hr)⟩
section
variable {kp:Nat} {K:Kd} {ord af tr:List Nat} {C:Hp} {S:Nat→aq.Fn}
theorem ct.cT(h:ct kp K S ord af tr C){r:Nat}(hl:live K.N r):r<1048576:=h.rep.lt hl
theorem ct.g9(h:ct kp K S ord af tr C)(r:Nat):K.hold r≤65535:=h.ok.mid.mx r
theorem ct.uM(h:ct kp K S ord af tr C)(r:Nat):K.use r≤2097153:=by have:=uN h.ok.mid h.idle (M:=0) (fun _=>Nat.le_refl _) r;omega
structure AS(K K':Kd)(r:Nat):Prop where
 n:K'.n=K.n
 cap:K'.cap=K.cap
 used:K'.used=K.used
 N:K'.N=K.N
 hold:∀s,K'.hold s=if s=r∧2≤r then K.hold s+1 else K.hold s
theorem tc(h:ct kp K S ord af tr C){r:Nat}(hl:live K.N r)(h2:2≤r)(hf:K.hold r=65535):Rd Tryz.prog 141 #[ptr kp,u32 r] C (· =.int .i64 8):=by
 have hr:=h.cT hl
 obtain⟨b,hC,hO⟩:=h.rep
 have hfit:r<K.ho.length:=by
  rcases hl with hl|⟨d,hd⟩
  ·omega
  ·rw[←hO.ul.1];exact h.ok.mid.fit hd
 refine aX fun g=>kS ?_
 refine ae.bC (Br.no (Nil.ptr (aj.mk ?_)))
 refine aa.eq (fJ h.rep (by omega)) ?_
 rw[bc.2 hl]
 refine Un.not (Br.no ?_)
 intro J7 _
 refine ae.og (b:=1) (Br.T ?_)
 refine Nil.ptr (aj.mk (Ld.u (by rw[hC];exact .head _) ?_))
 refine hO.ho.ld (x:=((K.hold r:Nat):Int)) (bH hfit) (by rw[hC];exact aT.sub (.cons (.app (.app (.app .left))))) ?_
 rw[hf]
 exact ae.iR (Br.T (bF.mk (.refl _) rfl))
theorem n7(h:cB kp K ord af tr C)(Bb:gi K S fo zero')(yA:Idle K){r:Nat}(hl:live K.N r)(hf:2≤r→K.hold r<65535):Fc Tryz.prog 141 #[ptr kp,u32 r] C (fun v C'=>v=.int .i64 0∧∃K',cB kp K' ord af [] C'∧
  gi K' S fo zero'∧Idle K'∧AS K K' r∧(∀s,K.use s≤K'.use s)∧(2≤r→0<K'.use r)):=by
 have hr:=h.lt hl
 have h0:=h
 obtain⟨b,hC,hO⟩:=h
 refine aX fun g=>kS ?_
 refine ae.bC (Br.no (Nil.ptr (aj.mk ?_)))
 refine aa.eq (fJ h0 (by omega)) ?_
 rw[bc.2 hl]
 refine Un.not (Br.no ?_)
 intro J7 Ik
 have fin:∀(K':Kd) C1,cB kp K' ord af tr C1→gi K' S fo zero'→Idle K'→AS K K' r→(∀s,K.use s≤K'.use s)→(2≤r→0<K'.use r)→J7 [] C1:=fun K' C1 eP Ak vW hm hu hp=>by
  refine Ik _ fun gs=>?_
  obtain⟨b',rfl,tx⟩:=eP
  refine Nil.ptr (aj.mk (St.one (by exact .head _) rfl (by simp[mE.cells]) rfl ?_))
  refine aY.mk (gO:=({b' with vt:=.slice none 0 0,CR:=[]}:mE).hp kp K'.n) ?_ ⟨rfl,K',⟨{b' with vt:=.slice none 0 0,CR:=[]},rfl,{tx with tr:=au.nil}⟩,Ak,vW,hm,hu,hp⟩
  refine .cons (.cZ (.cZ (.cZ (.cZ (.cZ (.cZ .nil _) _) _) _) _) _)
 refine ae.og (b:=1) (Br.dec (fun h2=>?_) (fun h2=>?_))
 rotate_left
 ·refine JE.mk (fin K C h0 Bb yA ⟨rfl,rfl,rfl,rfl,fun s=>?_⟩ (fun _=>Nat.le_refl _) (fun h=>by omega))
  rw[if_neg (by omega)]
 have mg:2≤r:=by omega
 have xn:=hf mg
 obtain⟨d,hd⟩:∃d,K.N r=some d:=by
  rcases hl with hl|hl
  ·omega
  ·exact hl
 have Dw:=Bb.fit hd
 have zm:=hO.ul
 have hfit:r<K.ho.length:=by omega
 subst hC
 refine Nil.ptr (aj.mk (Ld.f ?_))
 refine hO.ho.ld (x:=((K.hold r:Nat):Int)) (bH hfit) (aT.sub (.cons (.app (.app (.app .left))))) ?_
 refine ae.iR (Br.F ?_)
 refine Nil.ptr (aj.mk (Ld.f ?_))
 refine hO.ho.ld (x:=((K.hold r:Nat):Int)) (bH hfit) (aT.sub (.cons (.app (.app (.app .left))))) ?_
 refine ae.inc ?_
 refine hO.ho.iI (x:=((K.hold r+1:Nat):Int)) (.cons (.app (.app (.app .left)))) (by rw[aE];exact hfit) fun y4 iC=>?_
 rw[ej]at iC
 have g1:∀s,(K.ho.set r (K.hold r+1)).getD s 0=if s=r then K.hold r+1 else K.hold s:=fun s=>eK hfit
 refine Nil.ptr (aj.mk (Ld.f ?_))
 refine iC.ld (x:=((K.hold r+1:Nat):Int)) (by rw[bH (by simpa using hfit),g1,if_pos rfl]) (aT.sub (.cons (.app (.app (.app .left))))) ?_
 refine ae.lg (b:=1) (Br.dec (fun h3=>?_) (fun h3=>?_))
 ·refine Nil.ptr (aj.mk (Ld.f ?_))
  refine hO.us.ld (x:=((K.use r:Nat):Int)) (bH Dw) (aT.sub (.cons (.app (.app .left)))) ?_
  have Jo:=uN Bb yA (M:=0) (fun _=>Nat.le_refl _) r
  refine ae.inc ?_
  refine hO.us.iI (x:=((K.use r+1:Nat):Int)) (.cons (.app (.app .left))) (by rw[aE];exact Dw) fun xA oR=>?_
  rw[ej]at oR
  have g2:∀s,(K.us.set r (K.use r+1)).getD s 0=if s=r then K.use r+1 else K.use s:=fun s=>eK Dw
  have hM:=Bb.keep (r:=r) (cV:=K.us.set r (K.use r+1)) (bV:=K.ho.set r (K.hold r+1)) ⟨d,hd⟩ xn (by simp) (by rw[g1,if_pos rfl]) (fun s hs=>by rw[g1,if_neg hs]) (by rw[g2,if_pos rfl,if_pos (by omega)]) (fun s hs=>by rw[g2,if_neg hs])
  refine JE.mk (fin {K with us:=K.us.set r (K.use r+1),ho:=K.ho.set r (K.hold r+1)} _ ⟨{b with CU:=xA,CH:=y4},rfl,{hO with us:=oR,ho:=iC,ul:=by simp;exact zm}⟩ hM (fun s hs=>?_) ⟨rfl,rfl,rfl,rfl,fun s=>?_⟩ (fun s=>?_) (fun _=>?_))
  ·show(K.us.set r (K.use r+1)).getD s 0=0
   have hs':K.N s=none:=hs
   rw[g2,if_neg (fun e=>by rw[e,hd]at hs';cases hs')];exact yA s hs'
  ·show(K.ho.set r (K.hold r+1)).getD s 0=_
   rw[g1]
   by_cases e:s=r
   ·subst e;rw[if_pos rfl,if_pos ⟨rfl,mg⟩]
   ·rw[if_neg e,if_neg (fun h=>e h.1)]
  ·show K.use s≤(K.us.set r (K.use r+1)).getD s 0
   rw[g2];split
   ·rename_i e;subst e;omega
   ·exact Nat.le_refl _
  ·show 0<(K.us.set r (K.use r+1)).getD r 0
   rw[g2,if_pos rfl];omega
 ·have hM:=Bb.keep (r:=r) (cV:=K.us) (bV:=K.ho.set r (K.hold r+1)) ⟨d,hd⟩ xn (by simp) (by rw[g1,if_pos rfl]) (fun s hs=>by rw[g1,if_neg hs]) (by show K.use r=_;rw[if_neg (by omega)];rfl) (fun s hs=>rfl)
  refine JE.mk (fin {K with ho:=K.ho.set r (K.hold r+1)} _ ⟨{b with CH:=y4},rfl,{hO with ho:=iC,ul:=by simp;exact zm}⟩ hM yA ⟨rfl,rfl,rfl,rfl,fun s=>?_⟩ (fun _=>Nat.le_refl _) (fun _=>?_))
  rotate_left
  ·show 0<K.use r
   rw[Bb.use hd,if_neg (by omega)];omega
  show(K.ho.set r (K.hold r+1)).getD s 0=_
  rw[g1]
  by_cases e:s=r
  ·subst e;rw[if_pos rfl,if_pos ⟨rfl,mg⟩]
  ·rw[if_neg e,if_neg (fun h=>e h.1)]
theorem r7(h:ct kp K S ord af tr C){r:Nat}(hl:live K.N r)(hf:2≤r→K.hold r<65535):Fc Tryz.prog 141 #[ptr kp,u32 r] C (fun v C'=>v=.int .i64 0∧∃K',ct kp K' S ord af [] C'∧AS K K' r):=by
 refine(n7 h.rep h.ok.mid h.idle hl hf).mono ?_
 rintro v C' ⟨rfl,K',eP,DC,vW,hm,hu,hp⟩
 refine⟨rfl,K',⟨eP,⟨DC,fun s d hs=>?_,by rw[hm.n];exact h.ok.lv,by rw[hm.n,hm.N];exact h.ok.wf⟩,by rw[hm.n];exact h.od,vW,trivial⟩,hm⟩
 rw[hm.N]at hs
 exact Nat.lt_of_lt_of_le (h.ok.pos s d hs) (hu s)
end
section
variable {kp:Nat} {K:Kd} {ord af tr:List Nat} {C:Hp} {S:Nat→aq.Fn}
theorem ye{K':Kd}{P:Nat→Nat}(hw:WF K.n (lv af) K.N)(hM:gi K' S fo P)(hN:∀{s d},K'.N s=some d→K.N s=some d)(hn:K'.n=K.n):WF K'.n (lv af) K'.N:=by
 have same:∀{t},live K'.N t→dep K'.n (lv af) K'.N t=dep K.n (lv af) K.N t:=fun{t} ht=>by
  cases e:K'.N t with
  |some f=>rw[ag e,ag (hN e)]
  |none=>
   have BF:t<2:=by
    rcases ht with ht|⟨f,hf⟩
    ·exact ht
    ·rw[e]at hf;cases hf
   rw[aO e,aO (hw.const BF),hn]
 refine hM.wf fun{s d} hs=>?_
 rw[same (hM.lo hs),same (hM.hi hs)]
 exact⟨(hw.lo (hN hs)).2,(hw.hi (hN hs)).2⟩
structure zQ(K K':Kd)(r:Nat):Prop where
 n:K'.n=K.n
 cap:K'.cap=K.cap
 N:∀s d,K'.N s=some d→K.N s=some d
 hold:∀s,K'.hold s=if s=r∧2≤r then K.hold s-1 else K.hold s
theorem CD(h:ct kp K S ord af tr C){r:Nat}(hr:r<4294967296)(h2:2≤r)(h0:K.hold r=0):Rd Tryz.prog 142 #[ptr kp,u32 r] C (· =.int .i64 3):=by
 refine aX fun g=>kR ?_
 refine ae.bC (Br.no ?_)
 intro J2 _
 refine ae.og (b:=1) (Br.T ?_)
 refine aa.eq (n5 h.rep hr (fun s=>by have:=h.g9 s;omega)) ?_
 rw[h0]
 exact ae.iR (Br.T (bF.mk (.refl _) rfl))
theorem yP(h:ct kp K S ord af tr C){r:Nat}(hr:r<4294967296)(hh:2≤r→K.hold r≠0):Fc Tryz.prog 142 #[ptr kp,u32 r] C (fun v C'=>v=.int .i64 0∧∃K',ct kp K' S ord af [] C'∧zQ K K' r):=by
 have h0:=h
 obtain⟨b,hC,hO⟩:=h.rep
 refine aX fun g=>kR ?_
 refine ae.bC (Br.no ?_)
 intro J2 AH
 have fin:∀(K':Kd) C1,cB kp K' ord af tr C1→Ok K' S (lv af)→Idle K'→zQ K K' r→J2 [] C1:=fun K' C1 eP Ak vW hm=>by
  refine AH _ fun gs=>?_
  obtain⟨b',rfl,tx⟩:=eP
  refine Nil.ptr (aj.mk (St.one (by exact .head _) rfl (by simp[mE.cells]) rfl ?_))
  have oS:Ord K'.n (lv af) ord:=by rw[hm.n];exact h.od
  refine aY.mk (gO:=({b' with vt:=.slice none 0 0,CR:=[]}:mE).hp kp K'.n) ?_ ⟨rfl,K',⟨⟨{b' with vt:=.slice none 0 0,CR:=[]},rfl,{tx with tr:=au.nil}⟩,Ak,oS,vW,trivial⟩,hm⟩
  refine .cons (.cZ (.cZ (.cZ (.cZ (.cZ (.cZ .nil _) _) _) _) _) _)
 refine ae.og (b:=1) (Br.dec (fun h2=>?_) (fun h2=>?_))
 rotate_left
 ·exact JE.mk (fin K C h.rep h.ok h.idle ⟨rfl,rfl,fun _ _ h=>h,fun s=>by rw[if_neg (by omega)]⟩)
 have mg:2≤r:=by omega
 have iC:=hh mg
 obtain⟨d,hd⟩:=h.ok.mid.held r iC
 have Dw:=h.ok.mid.fit hd
 have zm:=hO.ul
 have hfit:r<K.ho.length:=by omega
 have hle:=h.g9 r
 refine aa.eq (n5 h.rep hr (fun s=>by have:=h.g9 s;omega)) ?_
 refine ae.iR (Br.F ?_)
 subst hC
 refine Nil.ptr (aj.mk (Ld.f ?_))
 refine hO.ho.ld (x:=((K.hold r:Nat):Int)) (bH hfit) (aT.sub (.cons (.app (.app (.app .left))))) ?_
 refine ae.bp (b:=1) ?_
 refine hO.ho.iI (x:=((K.hold r-1:Nat):Int)) (.cons (.app (.app (.app .left)))) (by rw[aE];exact hfit) fun y4 Ez=>?_
 rw[ej]at Ez
 have g1:∀s,(K.ho.set r (K.hold r-1)).getD s 0=if s=r then K.hold r-1 else K.hold s:=fun s=>eK hfit
 have hM:=h.ok.mid.drop (r:=r) (bV:=K.ho.set r (K.hold r-1)) (by omega) (by simp) (by rw[g1,if_pos rfl];omega) (fun s hs=>by rw[g1,if_neg hs])
 have oU:cB kp {K with ho:=K.ho.set r (K.hold r-1)} ord af tr (({b with CH:=y4}:mE).hp kp K.n):=⟨_,rfl,{hO with ho:=Ez,ul:=by simp;exact zm}⟩
 have Gd:∀s,(K.ho.set r (K.hold r-1)).getD s 0=if s=r∧2≤r then K.hold s-1 else K.hold s:=fun s=>by
  rw[g1]
  by_cases e:s=r
  ·subst e;rw[if_pos rfl,if_pos ⟨rfl,mg⟩]
  ·rw[if_neg e,if_neg (fun h=>e h.1)]
 refine Nil.ptr (aj.mk (Ld.f ?_))
 refine Ez.ld (x:=((K.hold r-1:Nat):Int)) (by rw[bH (by simpa using hfit),g1,if_pos rfl]) (aT.sub (.cons (.app (.app (.app .left))))) ?_
 refine ae.lg (b:=0) (Br.dec (fun h3=>?_) (fun h3=>?_))
 rotate_left
 ·rw[if_neg (by omega)]at hM
  exact JE.mk (fin {K with ho:=K.ho.set r (K.hold r-1)} _ oU ⟨hM,h.ok.pos,h.ok.lv,h.ok.wf⟩ h.idle ⟨rfl,rfl,fun _ _ h=>h,Gd⟩)
 rw[if_pos (by omega)]at hM
 refine Nil.ptr (aj.mk ?_)
 have Ba:gi {K with ho:=K.ho.set r (K.hold r-1)} S fo (dI zero' [r]):=hM.congr (fun _=>Iff.rfl) fun s _=>by
  unfold up dI zero'
  by_cases e:s=r
  ·subst e;simp
  ·simp[e,Ne.symm e]
 refine aa.fq (ph (P0:=zero') oU Ba h.ok.pos (fun t Fh h0=>?_) (h.cT (.inr ⟨d,hd⟩)) (fun s=>by have:=h.uM s;show K.use s<_;omega)) ?_
 ·by_cases e:t=r
  ·subst e;exact⟨d,hd⟩
  ·have IA:0<zero' t+[r].count t:=h0
   simp[zero',Ne.symm e]at IA
 rintro w C2 ⟨rfl,K2,fw,DB,HA,_,jj⟩
 refine JE.mk (fin K2 _ fw ⟨DB,HA,by rw[jj.n];exact h.ok.lv,ye h.ok.wf DB (fun h=>jj.N h) jj.n⟩ (jj.idle h.idle) ⟨jj.n,jj.cap,fun s e hs=>jj.N hs,fun s=>?_⟩)
 show K2.ho.getD s 0=_
 rw[jj.ho]
 exact Gd s
structure jr(K:Kd)(S:Nat→aq.Fn)(K':Kd)(S':Nat→aq.Fn)(f:aq.Fn)(r:Nat):Prop where
 n:K'.n=K.n
 cap:K'.cap=K.cap
 used:K'.used≤K.used+1
 N:∀s d,K.N s=some d→K'.N s=some d
 fn:∀s,live K.N s→S' s=S s
 live:live K'.N r
 is:S' r=f
 hold:∀s,K'.hold s=if s=r∧2≤r then K.hold s+1 else K.hold s
theorem r3(h:ct kp K S ord af tr C){v lo hi:Nat}(hv:v<K.n)(hlo:live K.N lo)(hhi:live K.N hi)(hlt:lo=hi∨(lv af v<dep K.n (lv af) K.N lo∧lv af v<dep K.n (lv af) K.N hi)):
  Fc Tryz.prog 175 #[ptr kp,.int .i64 (v:Int),u32 lo,u32 hi] C (fun w C'=>
   (∃r K' S',w=.tuple #[u32 r,.int .i64 0]∧ct kp K' S' ord af [] C'∧jr K S K' S' (ite S ⟨v,lo,hi⟩) r)∨
   (∃r,w=.tuple #[u32 0,.int .i64 8]∧C'=C∧live K.N r∧2≤r∧K.hold r=65535∧S r=ite S ⟨v,lo,hi⟩)∨
   (w=.tuple #[u32 0,.int .i64 9]∧C'=C∧K.cap≤K.used∧lo≠hi∧K.T ⟨v,lo,hi⟩=none)):=by
 have h0:=h
 have Es:=h.cT hlo
 have Ey:=h.cT hhi
 have BX:=bc.2 hlo
 have yw:=bc.2 hhi
 have EG:gx K af (v:Int) lo hi=0:=by
  unfold gx
  rw[if_neg (by omega),if_neg (by rw[BX,yw];simp),if_neg]
  rintro⟨hne,hmin⟩
  rcases hlt with e|⟨a,b⟩
  ·exact hne e
  ·simp only[Int.toNat_natCast,lv]at hmin a b;omega
 refine aX fun g=>ru ?_
 refine ae.bC (Br.no ?_)
 refine aa.eq (su h.rep (v:Int) (by omega) (by omega) (fun r d hd=>⟨h.ok.mid.var hd,(h.ok.mid.two hd).1⟩)) ?_
 rw[EG]
 refine ae.ep (Br.F ?_)
 refine aa.rq (rR h.rep (lo:=lo) (hi:=hi) hv) ?_
 rintro w hw
 have there:∀(J9:List Value→Hp→Prop),(∀DS:Value,∀GQ:Hp,(∀IB:Fr,aa Tryz.prog g 141 #[ptr kp,DS] GQ (fun FP GP=>ae .num .neq FP (Value.int .i64 0) fun G2=>Br G2
   (aY (fun w C'=>(∃r K' S',w=.tuple #[u32 r,.int .i64 0]∧ct kp K' S' ord af [] C'∧jr K S K' S' (ite S ⟨v,lo,hi⟩) r)∨
   (∃r,w=.tuple #[u32 0,.int .i64 8]∧C'=C∧live K.N r∧2≤r∧K.hold r=65535∧S r=ite S ⟨v,lo,hi⟩)∨
   (w=.tuple #[u32 0,.int .i64 9]∧C'=C∧K.cap≤K.used∧lo≠hi∧K.T ⟨v,lo,hi⟩=none)) (.returned (.tuple #[(Value.int .u32 0),FP])) GP) (aY (fun w C'=>(∃r K' S',w=.tuple #[u32 r,.int .i64 0]∧ct kp K' S' ord af [] C'∧jr K S K' S' (ite S ⟨v,lo,hi⟩) r)∨
   (∃r,w=.tuple #[u32 0,.int .i64 8]∧C'=C∧live K.N r∧2≤r∧K.hold r=65535∧S r=ite S ⟨v,lo,hi⟩)∨
   (w=.tuple #[u32 0,.int .i64 9]∧C'=C∧K.cap≤K.used∧lo≠hi∧K.T ⟨v,lo,hi⟩=none)) (.returned (.tuple #[DS,(Value.int .i64 0)])) GP)) (kL (aY (fun w C'=>(∃r K' S',w=.tuple #[u32 r,.int .i64 0]∧ct kp K' S' ord af [] C'∧jr K S K' S' (ite S ⟨v,lo,hi⟩) r)∨
   (∃r,w=.tuple #[u32 0,.int .i64 8]∧C'=C∧live K.N r∧2≤r∧K.hold r=65535∧S r=ite S ⟨v,lo,hi⟩)∨
   (w=.tuple #[u32 0,.int .i64 9]∧C'=C∧K.cap≤K.used∧lo≠hi∧K.T ⟨v,lo,hi⟩=none)))))→J9 [DS] GQ)→
   ∀r,live K.N r→S r=ite S ⟨v,lo,hi⟩→J9 [u32 r] C:=fun J9 wk r hr hS=>by
  refine wk _ _ fun gs=>?_
  by_cases hf:2≤r∧K.hold r=65535
  ·refine aa.eq (tc h hr hf.1 hf.2) ?_
   exact ae.ep (Br.T (aY.here (.inr (.inl ⟨r,rfl,rfl,hr,hf.1,hf.2,hS⟩))))
  ·refine aa.fq (r7 h hr (fun h2=>by have:=h.g9 r;omega)) ?_
   rintro w C' ⟨rfl,K',eP,hm⟩
   refine ae.ep (Br.F (aY.here (.inl ⟨r,K',S,rfl,eP,⟨hm.n,hm.cap,by rw[hm.used];omega,fun s d hs=>by rw[hm.N];exact hs,fun _ _=>rfl,by rw[hm.N];exact hr,hS,hm.hold⟩⟩)))
 by_cases he:lo=hi
 ·rw[if_pos he]at hw
  subst hw
  refine Ext.two ?_
  intro J9 wk
  refine Un.not (Br.no (JE.mk (there J9 wk lo hlo ?_)))
  funext z
  unfold aq.ite
  simp[he]
 rw[if_neg he]at hw
 have jx:lv af v<dep K.n (lv af) K.N lo∧lv af v<dep K.n (lv af) K.N hi:=by
  rcases hlt with e|e
  ·exact absurd e he
  ·exact e
 obtain⟨o,ho⟩:∃o,o=K.T ⟨v,lo,hi⟩:=⟨_,rfl⟩
 cases o with
 |some r=>
  have hT:K.T ⟨v,lo,hi⟩=some r:=ho.symm
  rw[hT]at hw
  subst hw
  refine Ext.two ?_
  intro J9 wk
  have hN:=((h.ok.mid.kV _ r).1 hT).1
  refine Un.not (Br.no (JE.mk (there J9 wk r (.inr ⟨_,hN⟩) ?_)))
  funext z
  rw[h.ok.mid.int.node hN]
  rfl
 |none=>
  have hT:K.T ⟨v,lo,hi⟩=none:=ho.symm
  rw[hT]at hw
  subst hw
  refine Ext.two ?_
  intro J9 wk
  refine Un.not (Br.yes (Nil.ptr (aj.mk ?_)))
  have hcap:=h.ok.mid.cap
  refine aa.eq (vB h.rep (m:=1) (by omega) (by omega)) ?_
  refine Un.not ?_
  by_cases hroom:K.used+1≤K.cap
  rotate_left
  ·rw[decide_eq_false hroom]
   exact Br.yes (aY.here (.inr (.inr ⟨rfl,rfl,by omega,he,hT⟩)))
  rw[decide_eq_true hroom]
  refine Br.no (Nil.ptr (aj.mk ?_))
  refine Build.mk (cs:=dB ⟨v,lo,hi⟩) (by kernel_rfl) ?_
  have hfit:∀{t:Nat},live K.N t→t<2∨t<K.us.length:=fun ht'=>by
   rcases ht' with ht'|⟨d,dj⟩
   ·exact .inl ht'
   ·exact .inr (h.ok.mid.fit dj)
  have vR:K.n≤64:=by obtain⟨_,_,hO⟩:=h.rep;exact hO.ze
  refine aa.fq (xF h.rep (d:=⟨v,lo,hi⟩) ⟨by show v<64;omega,hlo,hhi⟩ hv hT (by omega) (hfit hlo) (hfit hhi) (fun s=>by have:=h.uM s;omega)) ?_
  rintro w C1 ⟨r,cV,bV,rfl,hN,h2,hrc,hlen,Hw,zm,u0,u1,u2,o0,o1,oU⟩
  have AF:=h.ok.mid.lay (r:=r) (d:=⟨v,lo,hi⟩) hN ⟨h2,hrc⟩ hv he hlo hhi hT (fun h=>h) rfl (by omega) hlen ⟨Hw,zm⟩ u0 u1 o0 o1
  have EY:∀s d,K.N s=some d→up K.N r (some ⟨v,lo,hi⟩) s=some d:=fun s d hs=>by rw[aC (fun e=>by rw[e,hN]at hs;cases hs)];exact hs
  have hne:∀{t:Nat},live K.N t→t≠r:=fun ht=>cS ht h2 hN
  have Ew:Idle {K with N:=up K.N r (some ⟨v,lo,hi⟩),T:=rO K.T ⟨v,lo,hi⟩ (some r),used:=K.used+1,us:=cV,ho:=bV}:=fun s hs=>by
   have hs':up K.N r (some ⟨v,lo,hi⟩) s=none:=hs
   have xl:s≠r:=fun e=>by subst e;rw[ay]at hs';cases hs'
   rw[aC xl]at hs'
   show cV.getD s 0=0
   by_cases DG:2≤s
   ·rw[u1 s DG xl,h.idle s hs',dG]
    have a1:lo≠s:=fun e=>by
     rcases hlo with h5|⟨d,h5⟩
     ·omega
     ·rw[e,hs']at h5;cases h5
    have a2:hi≠s:=fun e=>by
     rcases hhi with h5|⟨d,h5⟩
     ·omega
     ·rw[e,hs']at h5;cases h5
    simp[a1,a2]
   ·rw[u2 s (by omega),h.idle s hs']
  refine JE.mk (wk _ _ fun gs=>?_)
  refine aa.fq (n7 oU AF Ew (r:=r) (.inr ⟨_,ay⟩) (fun _=>by show bV.getD r 0<65535;rw[o0];omega)) ?_
  rintro w C2 ⟨rfl,K2,fw,Ba,Ev,hm,hu,hp⟩
  refine ae.ep (Br.F ?_)
  have Dm:K2.n=K.n:=hm.n
  have Co:K2.N=up K.N r (some ⟨v,lo,hi⟩):=hm.N
  have hpos:Pos K2:=fun s d hs=>by
   by_cases e:s=r
   ·rw[e];exact hp h2
   ·rw[Co,aC e]at hs
    have h3:=hu s
    have h4:({K with N:=up K.N r (some ⟨v,lo,hi⟩),T:=rO K.T ⟨v,lo,hi⟩ (some r),used:=K.used+1,us:=cV,ho:=bV}:Kd).use s=cV.getD s 0:=rfl
    rw[h4,u1 s (h.ok.mid.two hs).1 e]at h3
    have:=h.ok.pos s d hs
    omega
  have yB:∀{t:Nat},live K.N t→dep K2.n (lv af) K2.N t=dep K.n (lv af) K.N t:=fun{t} ht=>by
   rw[Co,Dm]
   unfold dep
   rw[aC (hne ht)]
  have Eb:WF K2.n (lv af) K2.N:=Ba.wf fun{s d} hs=>by
   rw[Co]at hs
   by_cases e:s=r
   ·rw[e,ay]at hs;cases hs
    rw[yB hlo,yB hhi];exact jx
   ·rw[aC e]at hs
    rw[yB (h.ok.wf.lo hs).1,yB (h.ok.wf.hi hs).1]
    exact⟨(h.ok.wf.lo hs).2,(h.ok.wf.hi hs).2⟩
  have hS:∀s,live K.N s→up S r (ite S ⟨v,lo,hi⟩) s=S s:=fun s hs=>aC (hne hs)
  refine aY.here (.inl ⟨r,K2,up S r (ite S ⟨v,lo,hi⟩),rfl,⟨fw,⟨Ba,hpos,by rw[Dm];exact h.ok.lv,Eb⟩,by rw[Dm];exact h.od,Ev,trivial⟩,⟨Dm,hm.cap,by rw[hm.used];exact Nat.le_refl _,fun s d hs=>by rw[Co];exact EY s d hs,hS,.inr ⟨_,by rw[Co];exact ay⟩,ay,fun s=>?_⟩⟩)
  rw[hm.hold]
  show(if s=r∧2≤r then bV.getD s 0+1 else bV.getD s 0)=_
  by_cases e:s=r
  ·subst e
   rw[if_pos ⟨rfl,h2⟩,if_pos ⟨rfl,h2⟩,o0]
   have:K.hold s=0:=by
    apply Decidable.byContradiction
    intro hne
    obtain⟨d,hd⟩:=h.ok.mid.held s hne
    rw[hN]at hd;cases hd
   omega
  ·rw[if_neg (fun h=>e h.1),if_neg (fun h=>e h.1),o1 s e]
end
theorem hnew{H:Hp}:aT [] H (fun X=>X++H):=aT.left
theorem vL{n:Nat}(hn:n≤64):Fc Tryz.prog 118 #[.int .i64 (n:Int)] [] (fun v H=>au 3 .i64 v (iw (List.range n)) H):=by
 refine aX fun g=>rK ?_
 refine da.ints (by omega) (by omega) fun b=>?_
 have h0:au 3 .i64 (.slice (some ⟨b,0,none⟩) n n) (List.replicate n 0) [(b,.cells (ai .i64 (List.replicate n 0)) 3 (0,0))]:=by
  have:=au.made (T:=3) (kd:=.i64) (b:=b) (List.replicate n (0:Int))
  rw[List.length_replicate]at this;exact this
 refine⟨fun vs H=>∃j:Nat,vs=[.int .i64 (j:Int)]∧j≤n∧au 3 .i64 (.slice (some ⟨b,0,none⟩) n n) (iw (List.range j)++List.replicate (n-j) 0) H,fun vs _=>n-cj vs 0,JE.mk ⟨0,rfl,by omega,by simpa[iw]using h0⟩,?_⟩
 rintro w H ⟨j,hw,hj,hs⟩ gs
 simp only[List.cons.injEq,and_true]at hw
 subst hw
 refine ae.jB (Br.dec (fun hlt=>?_) (fun hlt=>?_))
 ·refine hs.iI (x:=(j:Int)) .here (by simp;omega) fun C' hs'=>?_
  refine ae.inc ?_
  have e:(iw (List.range j)++List.replicate (n-j) 0).set j (j:Int)=iw (List.range (j+1))++List.replicate (n-(j+1)) 0:=by
   rw[List.set_append_right _ _ (by simp)]
   rw[show n-j=(n-(j+1))+1 by omega,List.replicate_succ,List.range_succ,cM]
   simp[iw]
  rw[e]at hs'
  exact av.of (.refl _) ⟨j+1,rfl,by omega,hs'⟩ (by show n-(((j+1:Nat):Int).toNat)<n-(((j:Nat):Int).toNat);omega)
 ·obtain rfl:j=n:=by omega
  exact aY.here (by simpa using hs)
theorem jh{n:Nat}(hn:n≤64):Fc Tryz.prog 68 #[.int .i64 (n:Int)] [] (fun v H=>∃s,v=.tuple #[s,.int .i64 0]∧au 3 .i64 s (iw (List.range n)) H):=by
 refine aX fun g=>my ?_
 refine ae.lss ?_
 rw[decide_eq_false (by omega)]
 refine cW.or false (fun _=>ae.gtr ⟨rfl,by rw[decide_eq_false (by omega)]⟩) rfl fun _=>Br.no ?_
 refine aa.fq (vL hn) ?_
 intro s H hs
 exact aY.here ⟨s,rfl,hs⟩
def K0(n cap:Nat):Kd:=⟨n,cap,2,fun _=>none,fun _=>none,[],[]⟩
def S0:Nat→aq.Fn:=fun r _=>decide (r=1)
theorem fH{n v:Nat}(hv:v<n):lv (List.range n) v=v:=by
 show(List.range n).getD v 0=v
 simp[List.getD,hv]
theorem Da{n cap:Nat}(hc:2≤cap∧cap≤1048576):Ok (K0 n cap) S0 (lv (List.range n)):=by
 have c0:∀k,fQ (fun _=>none) k=0:=fun k=>by induction k with|zero=>rfl|succ k ih=>rw[fQ,ih];rfl
 have hm:gi (K0 n cap) S0 fo zero':={
  two:=fun h=>nomatch h
  var:=fun h=>nomatch h
  ne:=fun h=>nomatch h
  lo:=fun h=>nomatch h
  hi:=fun h=>nomatch h
  int:=⟨fun _=>rfl,fun _=>rfl,fun h=>nomatch h⟩
  kV:=fun d r=>⟨fun h=>(nomatch h),fun h=>nomatch h.1⟩
  use:=fun h=>nomatch h
  len:=rfl
  fit:=fun h=>nomatch h
  held:=fun r h=>absurd (by simp[Kd.hold,K0]) h
  mx:=fun r=>by simp[Kd.hold,K0]
  room:=by show 2=2+fQ (fun _=>none) _;rw[c0]
  cap:=hc}
 refine⟨hm,fun r d h=>(nomatch h),⟨fun v hv=>?_,fun u v hu hv h=>?_⟩,⟨fun h=>(nomatch h),fun h=>(nomatch h),fun h=>(nomatch h),fun h=>(nomatch h),fun h=>(nomatch h),fun h=>(nomatch h)⟩⟩
 ·have xk:v<n:=hv
  rw[fH xk];exact hv
 ·have oR:u<n:=hu
  have xk:v<n:=hv
  rwa [fH oR,fH xk]at h
theorem nS{pt n cap:Nat}{CT:Hp}(hu:iu pt n (fun _=>none) CT)(hc:2≤cap∧cap≤1048576):Fc Tryz.prog 70 #[.int .i64 (cap:Int),ptr pt] CT (fun v H=>∃pa CA,v=.tuple #[.agg #[ptr pa,ptr pt,.slice none 0 0,.slice none 0 0],.int .i64 0]∧dS pa cap 2 (fun _=>none) CA∧H=CA++CT):=by
 refine aX fun g=>uj ?_
 intro b1 _
 refine aa.fn hnew (yX hc) ?_
 rintro v C ⟨pa,rfl,hA⟩
 refine Ext.two ?_
 refine Build.mk (cs:=[ptr pa,ptr pt,.slice none 0 0,.slice none 0 0]) (by kernel_rfl) ?_
 refine St.q ?_
 refine aB.q ?_
 exact aY.mk (.cZ .tail _) ⟨pa,C,rfl,hA,rfl⟩
theorem Ab{n cap:Nat}(hn:1≤n∧n≤64)(hc:2≤cap∧cap≤1048576):Fc Tryz.prog 40 #[.int .i64 (n:Int),.int .i64 (cap:Int)] [] (fun v C=>∃kp,v=.tuple #[ptr kp,.int .i64 0]∧ct kp (K0 n cap) S0 (List.range n) (List.range n) [] C):=by
 refine aX fun g=>mA ?_
 refine aa.fq (jh hn.2) ?_
 rintro v CO ⟨s,rfl,hO⟩
 obtain⟨sa,sl,sc,Hv⟩:∃a l c,s=Value.slice a l c:=by obtain⟨a,c,h⟩:=aD.len hO;exact⟨a,_,c,h⟩
 refine Ext.two ?_
 refine ae.ep ?_
 refine cW.or false (fun _=>ae.lss ⟨rfl,by rw[decide_eq_false (by omega)]⟩) rfl fun gs=>?_
 refine cW.or false (fun _=>ae.lss ⟨rfl,by rw[decide_eq_false (by omega)]⟩) rfl fun gs=>?_
 refine cW.or false (fun _=>ae.gtr ⟨rfl,by rw[decide_eq_false (by omega)]⟩) rfl fun gs=>Br.no ?_
 refine aa.fn hnew (xC hn) ?_
 rintro v CT ⟨pt,rfl,hT⟩
 refine Ext.two ?_
 refine ae.ep (Br.no ?_)
 refine aa.fq (nS hT hc) ?_
 rintro v H ⟨pa,CA,rfl,hA,rfl⟩
 refine Ext.two ?_
 intro JP _
 refine St.q ?_
 refine ae.ep (Br.no (DR.self ?_))
 refine aB.q ?_
 refine aa.fq (oG (hO.ints.mono fun _ h=>h) (by simp;omega)) ?_
 rintro v H ⟨CL,rfl,hL⟩
 obtain⟨la,ll,lc,hle⟩:∃a l c,v=Value.slice a l c:=by obtain⟨a,c,h⟩:=aD.len hL;exact⟨a,_,c,h⟩
 refine⟨(.cons (.cZ .right _)),?_⟩
 subst Hv hle
 refine Build.mk (cs:=[ptr pa,ptr pt,.slice none 0 0,.slice none 0 0,.int .i64 (n:Int),.slice sa sl sc,.slice la ll lc,.slice none 0 0]) (by kernel_rfl) ?_
 intro Bf _
 refine⟨(.skip (.cons (.cZ .right _))),?_⟩
 let kb:mE:=⟨pa,pt,.slice none 0 0,.slice none 0 0,.slice sa sl sc,.slice la ll lc,.slice none 0 0,CA,CT,[],[],CO,CL,[]⟩
 refine aY.mk (gO:=kb.hp Bf n) ?_ ⟨Bf,rfl,⟨kb,rfl,⟨hA,hT,au.nil,au.nil,hO,hL,au.nil,⟨rfl,by simp[K0]⟩,hn.2,by simp[K0]⟩⟩,Da hc,⟨by simp[K0],fun l hl=>?_⟩,fun s _=>by simp[Kd.use,K0],trivial⟩
 ·refine .cons (.skip ((aS.assoc).trans ?_))
  show aS (CA++(CT++(CL++CO))) (CA++(CT++([]++([]++(CO++(CL++[]))))))
  simp only[List.nil_append,List.append_nil]
  exact .cZ (.cZ (.perm List.perm_append_comm) _) _
 ·have hl':l<n:=hl
  have e:(List.range n).getD l 0=l:=fH hl'
  rw[e];exact⟨hl,fH hl'⟩
end Go.Proofs
namespace aq
def o8(ord path:List Nat):List Nat:=path.foldl DW ord
structure Rm where
 n:Nat
 size:List Nat→Nat
 fit:List Nat→Nat→Bool
end aq
set_option maxRecDepth 100000
namespace Go.Proofs
open Go Go.Sx
open aq
def At(kp:Nat)(K:Kd)(S:Nat→aq.Fn)(ord tr:List Nat)(C:Hp):Prop:=∃K' S' di,ct kp K' S' ord di tr C∧Kept K S K' S'
noncomputable def nZ(K:Kd)(S:Nat→aq.Fn)(ord:List Nat):Nat:=sz K.n ord (K.held S)
def D9(K:Kd)(S:Nat→aq.Fn)(ord:List Nat)(l:Nat):Prop:=FQ K.n ord l (K.held S)+2≤K.cap
section
variable {kp:Nat} {K:Kd} {S:Nat→aq.Fn} {ord tr:List Nat} {C:Hp}
theorem ct.ik{af:List Nat}(h:ct kp K S ord af tr C):At kp K S ord tr C:=⟨K,S,af,h,.refl _ _⟩
theorem n6{K':Kd}{S':Nat→aq.Fn}(h:Kept K S K' S')(ord:List Nat):nZ K' S' ord=nZ K S ord:=by
 unfold nZ;rw[h.n];exact uT h.held
theorem At.ze(h:At kp K S ord tr C):K.n≤64:=by
 obtain⟨K',S',di,h,hk⟩:=h
 obtain⟨b,_,hO⟩:=h.rep
 rw[←hk.n];exact hO.ze
theorem wS(h:At kp K S ord tr C):Fc Tryz.prog 65 #[ptr kp] C (fun r H=>∃N,H=N++C∧au 3 .i64 r (iw ord) N):=by
 obtain⟨K',S',di,h,hk⟩:=h
 exact l6 h.rep
end
end Go.Proofs
namespace Go.Sx
open Go
section
variable {P:Program} {g:Gh} {H:Hp}
theorem dy.nat{len size b o j:Nat}{kd:IntKind}{k:Value→Prop}(h1:j<len)(h:k (.pointer (some ⟨b,o+j*size,none⟩))):dy len size (.pointer (some ⟨b,o,none⟩)) (.int kd (j:Int)) k:=
 ⟨b,o,kd,(j:Int),rfl,rfl,by omega,by omega,by simpa using h⟩
theorem dn.CP{o:Oper}{ρ:Operand→Value}{k:Value→Prop}{t e:TypeId}{q kd:IntKind}{n j:Nat}{x i:Operand}{l:List Int}{z:Int}(ho:o.op=.index t x i)(hx:ρ x=.agg (ai q l))(hi:ρ i=.int kd (j:Int))
 (ht:P.underlying t=some (.array n e))(hu:P.underlying e=some (.int q))(hz:bR P e=some 1)(hj:j<n)(hl:l[j]? =some z)(hk:k (.int q z)):dn P g o ρ H k:=by
 obtain⟨inf,Eu,hs⟩:=aI hz
 refine⟨_,fun w _=>?_,hk⟩
 have hp:=gZ (P:=P) hu hl w
 have v7:(0:Int)≤(j:Int)∧(j:Int)<(n:Int):=by omega
 simp only[execOp,ho,Instr.index,hx,hi,asIntOf,Sem.run_bind,Sem.run_pure,Result.andThen_ok,run_underlying ht,run_sizeOf Eu,hs,if_pos v7,Int.toNat_natCast,Nat.mul_one,hp]
end
end Go.Sx
namespace aq
open dQ
def IG(m v:Nat):Nat:=if m.testBit v then m^^^2^v else m
def rest(m:Nat)(ord:List Nat):Nat→Nat
 |0=>m
 |k+1=>IG (rest m ord k) (ord.getD k 0)
def flat(n s:Nat):Rm:=⟨n,fun _=>s,fun _ _=>true⟩
end aq
namespace aq
def GH(i:Nat):Nat→List Nat
 |0=>[]
 |j+1=>if i≤j then j::GH i j else []
def G5(p:List Nat)(x:Nat):Nat:=p.idxOf x
def u9(p q:List Nat):Nat→List Nat
 |0=>[]
 |i+1=>u9 p q i++GH i (G5 (o8 p (u9 p q i)) (q.getD i 0))
def path(p q:List Nat):List Nat:=u9 p q q.length
end aq
namespace aq
open dQ
section
variable {n l:Nat} {ord:List Nat} {F G:Fn→Prop} {f c:Fn}
theorem mh:∀l g,fs ord (fun g=>F g∨G g) l g↔fs ord F l g∨fs ord G l g
 |0,g=>Iff.rfl
 |l+1,g=>by
  constructor
  ·rintro⟨f,hf,b,rfl⟩
   rcases(mh l f).1 hf with h|h
   ·exact .inl ⟨f,h,b,rfl⟩
   ·exact .inr ⟨f,h,b,rfl⟩
  ·rintro(⟨f,hf,b,rfl⟩|⟨f,hf,b,rfl⟩)
   ·exact⟨f,(mh l f).2 (.inl hf),b,rfl⟩
   ·exact⟨f,(mh l f).2 (.inr hf),b,rfl⟩
theorem nR(g:Fn):aA n ord (fun g=>F g∨G g) g↔aA n ord F g∨aA n ord G g:=by
 constructor
 ·rintro⟨l,hl,hf,hh⟩
  rcases(mh l g).1 hf with h|h
  ·exact .inl ⟨l,hl,h,hh⟩
  ·exact .inr ⟨l,hl,h,hh⟩
 ·rintro(⟨l,hl,hf,hh⟩|⟨l,hl,hf,hh⟩)
  ·exact⟨l,hl,(mh l g).2 (.inl hf),hh⟩
  ·exact⟨l,hl,(mh l g).2 (.inr hf),hh⟩
theorem c8{v:Nat}(h:¬cU f v)(x:Nat)(b:Bool):f (aQ x v b)=f x:=by
 have h0:f (aQ x v false)=f (aQ x v true):=Classical.byContradiction fun hne=>h ⟨x,hne⟩
 have h1:=fW x v
 conv=>rhs;rw[←h1]
 cases b<;>cases x.testBit v<;>simp[h0]
theorem m8(hi:∀j,j<l→¬cU f (ord.getD j 0)):∀k,k≤l→fs ord (fun g=>g=f) k f
 |0,_=>rfl
 |k+1,hk=>⟨f,m8 hi k (by omega),false,funext fun x=>(c8 (hi k (by omega)) x false).symm⟩
theorem jE(hi:∀j,j<l→¬cU f (ord.getD j 0)):∀k,k≤l→∀g,fs ord (fun g=>g=f) k g→g=f
 |0,_,g,h=>h
 |k+1,hk,g,h=>by
  obtain⟨f',hf,b,rfl⟩:=h
  obtain rfl:=jE hi k (by omega) f' hf
  exact funext fun x=>c8 (hi k (by omega)) x b
theorem lz(hi:∀j,j<l→¬cU f (ord.getD j 0)){b:Bool}(hc:c=fun x=>f (aQ x (ord.getD l 0) b)):
  (∀j,j<l+1→¬cU c (ord.getD j 0))∧∀g,aA n ord (fun g=>g=c) g→aA n ord (fun g=>g=f) g:=by
 have h1:fs ord (fun g=>g=f) (l+1) c:=⟨f,m8 hi l (Nat.le_refl _),b,hc⟩
 have h2:∀j,j<l+1→¬cU c (ord.getD j 0):=fun j hj=>oo (l+1) c h1 j hj
 refine⟨h2,?_⟩
 rintro g ⟨m,hm,hf,hh⟩
 by_cases e:m<l+1
 ·obtain rfl:=jE h2 m (by omega) g hf
  exact absurd hh (h2 m e)
 ·have key:∀d g,fs ord (fun g=>g=c) (l+1+d) g→fs ord (fun g=>g=f) (l+1+d) g:=fun d=>by
   induction d with
   |zero=>intro g hg;obtain rfl:=jE h2 (l+1) (Nat.le_refl _) g hg;exact h1
   |succ d ih=>rintro g ⟨f',xn,b',rfl⟩;exact⟨f',ih f' xn,b',rfl⟩
  obtain⟨d,rfl⟩:∃d,m=l+1+d:=⟨m-(l+1),by omega⟩
  exact⟨_,hm,key d g hf,hh⟩
theorem lB(hi:∀j,j<l→¬cU f (ord.getD j 0))(hl:l<n)(hh:cU f (ord.getD l 0)):aA n ord (fun g=>g=f) f:=⟨l,hl,m8 hi l (Nat.le_refl _),hh⟩
end
section
variable {K:Kd} {S:Nat→Fn} {af:Nat→Nat} {ord:List Nat}
theorem Ok.below(h:Ok K S af)(ho:Ord K.n af ord){r l:Nat}(hr:live K.N r)(hl:l≤K.n)(hi:∀j,j<l→¬cU (S r) (ord.getD j 0)):l≤dep K.n af K.N r:=by
 cases e:K.N r with
 |none=>rw[aO e];exact hl
 |some d=>
  rw[ag e]
  refine Classical.byContradiction fun hlt=>?_
  have jx:af d.v<l:=Nat.lt_of_not_le hlt
  have:=hi _ jx
  rw[ho.of h.lv (h.mid.var e)]at this
  exact this (eW h.wf h.lv h.mid.int e)
theorem Ok.roomFor(h:Ok K S af)(ho:Ord K.n af ord){U:Fn→Prop}{k:Nat}(hk:xg U k)(hfit:k+2≤K.cap)(hU:∀g,aA K.n ord (K.held S) g→U g){d:Nd}
 (hlo:live K.N d.lo)(hhi:live K.N d.hi)(hne:d.lo≠d.hi)(hv:d.v<K.n)(hlt:af d.v<dep K.n af K.N d.lo∧af d.v<dep K.n af K.N d.hi)(hg:U (ite S d))(hT:K.T d=none):K.used<K.cap:=by
 have hs:=h.size ho
 have hu:=h.mid.room
 obtain⟨l1,a1,a2,a3⟩:=hs
 have Ap:ite S d∉l1:=fun hm=>by
  obtain⟨r,e,hr,he⟩:=(ja h.wf h.lv ho h.mid.int (fun r hr=>.inr (h.mid.held r hr)) h.reach (ite S d)).1 ((a3 _).2 hm)
  have EW:¬K.N r=some d:=fun hN=>by
   have:=(h.mid.kV d r).2 ⟨hN,fun x=>x⟩
   rw[hT]at this;cases this
  apply EW
  have xl:S r=ite S d:=he.symm
  have vN:e.v=d.v:=by
   have e1:=h.lv.lt e.v (h.mid.var hr)
   have e2:=h.lv.lt d.v hv
   rcases Nat.lt_trichotomy (af e.v) (af d.v)with hh|hh|hh
   ·exfalso
    obtain⟨z,hz⟩:=eW h.wf h.lv h.mid.int hr
    rw[xl]at hz
    apply hz
    unfold ite
    have i1:=h.wf.bB h.lv h.mid.int hlo (h.mid.var hr) (by omega)
    have i2:=h.wf.bB h.lv h.mid.int hhi (h.mid.var hr) (by omega)
    have zx:d.v≠e.v:=fun iC=>by rw[iC]at hh;omega
    simp only[ak,if_neg zx,i1,i2]
   ·exact h.lv.inj _ _ (h.mid.var hr) hv hh
   ·exfalso
    have hx:=h.wf.bB h.lv h.mid.int (r:=r) (.inr ⟨e,hr⟩) hv (by rw[ag hr];exact hh)
    apply hne
    refine h.wf.same h.lv h.mid.int hlo hhi fun x=>?_
    have i1:=h.wf.bB h.lv h.mid.int hlo hv hlt.1
    have i2:=h.wf.bB h.lv h.mid.int hhi hv hlt.2
    have q1:=hx x false
    have q2:=hx x true
    rw[xl]at q1 q2
    have q3:=q1.trans q2.symm
    unfold ite at q3
    simp only[ak,if_true,i1,i2,Bool.false_eq_true,if_false]at q3
    exact q3
  have fN:∀(b:Bool) x,S (if b then e.hi else e.lo) x=S (if b then d.hi else d.lo) x:=fun b x=>by
   rw[←h.wf.child h.lv h.mid.int hr x b,xl,vN]
   have i1:=h.wf.bB h.lv h.mid.int hlo hv hlt.1
   have i2:=h.wf.bB h.lv h.mid.int hhi hv hlt.2
   unfold ite
   rw[ak,if_pos rfl,i1,i2]
   cases b<;>rfl
  have e1:e.lo=d.lo:=h.wf.same h.lv h.mid.int (h.mid.lo hr) hlo fun x=>fN false x
  have e2:e.hi=d.hi:=h.wf.same h.lv h.mid.int (h.mid.hi hr) hhi fun x=>fN true x
  have B5:∀a b:Nd,a.v=b.v→a.lo=b.lo→a.hi=b.hi→a=b:=fun a b h1 h2 h3=>by
   cases a;cases b;cases h1;cases h2;cases h3;rfl
  rw[hr,B5 e d vN e1 e2]
 obtain⟨l2,b1,b2,b3⟩:=hk
 have:=c6 (l:=ite S d::l1) (l':=l2) (List.nodup_cons.2 ⟨Ap,a1⟩) fun g EB=>by
  rcases List.mem_cons.1 EB with rfl|EB
  ·exact(b3 _).1 hg
  ·exact(b3 _).1 (hU g ((a3 g).2 EB))
 rw[List.length_cons]at this
 omega
end
end aq
namespace aq
open dQ
def dk(N:cP)(v:Nat)(b:Bool)(r:Nat):Nat:=match N r with
 |some d=>if d.v=v then(if b then d.hi else d.lo)else r
 |none=>r
def dH(N:cP)(v:Nat)(b:Bool)(q:List Nat):List Nat:=q.map (dk N v b)
structure kJ(n:Nat)(af:Nat→Nat)(N:cP)(q:List Nat)(v:Nat):Prop where
 lt:v<n
 ex:∃r∈q,∃d,N r=some d∧d.v=v
 le:∀r∈q,af v≤dep n af N r
inductive Tree(n:Nat)(af:Nat→Nat)(N:cP):List Nat→Nat→Prop
 |leaf {q:List Nat} (h:∀r∈q,N r=none):Tree n af N q 0
 |node {q:List Nat} {v a b:Nat} (h:kJ n af N q v) (ha:Tree n af N (dH N v false q) a) (hb:Tree n af N (dH N v true q) b):Tree n af N q (a+b+1)
def jA(t:Bool→Bool→Bool→Bool)(S:Nat→Fn)(q:List Nat):Fn:=fun x=>t (S (q.getD 0 0) x) (S (q.getD 1 0) x) (S (q.getD 2 0) x)
section
variable {n:Nat} {af:Nat→Nat} {N:cP} {S:Nat→Fn} {q:List Nat} {v:Nat}
theorem kJ.uniq(hl:kX n af){u:Nat}(h:kJ n af N q v)(h':kJ n af N q u):v=u:=by
 obtain⟨r,hr,d,hd,rfl⟩:=h.ex
 obtain⟨s,hs,e,he,rfl⟩:=h'.ex
 have a:=h.le s hs
 have b:=h'.le r hr
 rw[ag he]at a
 rw[ag hd]at b
 exact hl.inj _ _ h.lt h'.lt (by omega)
theorem ig(h:WF n af N)(hl:kX n af)(hi:Interp N S){r:Nat}(hr:live N r)(hv:v<n)(hle:af v≤dep n af N r)(b:Bool):
  (∀x,S (dk N v b r) x=S r (aQ x v b))∧live N (dk N v b r)∧af v+1≤dep n af N (dk N v b r):=by
 have hlt:=hl.lt v hv
 unfold dk
 cases e:N r with
 |none=>
  simp only
  refine⟨fun x=>?_,hr,by rw[aO e];omega⟩
  exact(h.bB hl hi hr hv (by rw[aO e];exact hlt) x b).symm
 |some d=>
  simp only
  rw[ag e]at hle
  by_cases ev:d.v=v
  ·rw[if_pos ev]
   subst ev
   refine⟨fun x=>(h.child hl hi e x b).symm,?_,?_⟩
   ·cases b
    ·exact(h.lo e).1
    ·exact(h.hi e).1
   ·cases b
    ·exact(h.lo e).2
    ·exact(h.hi e).2
  ·rw[if_neg ev]
   have hne:af v≠af d.v:=fun e2=>ev (hl.inj _ _ (h.var e) hv e2.symm)
   refine⟨fun x=>(h.bB hl hi hr hv (by rw[ag e];omega) x b).symm,hr,by rw[ag e];omega⟩
theorem wH(b:Bool):(dH N v b q).length=q.length:=by simp[dH]
theorem wI{b:Bool}{i:Nat}(hi:i<q.length):(dH N v b q).getD i 0=dk N v b (q.getD i 0):=by
 simp[dH,List.getD,List.getElem?_eq_getElem hi]
theorem jF(h:WF n af N)(hl:kX n af)(hi:Interp N S)(hq:∀r∈q,live N r)(ht:kJ n af N q v)(b:Bool):
  (∀r∈dH N v b q,live N r)∧(∀r∈dH N v b q,af v+1≤dep n af N r):=by
 constructor
 ·intro r hr
  obtain⟨s,hs,rfl⟩:=List.mem_map.1 hr
  exact(ig h hl hi (hq s hs) ht.lt (ht.le s hs) b).2.1
 ·intro r hr
  obtain⟨s,hs,rfl⟩:=List.mem_map.1 hr
  exact(ig h hl hi (hq s hs) ht.lt (ht.le s hs) b).2.2
theorem yN(h:WF n af N)(hl:kX n af)(hi:Interp N S)(h3:q.length=3)(hq:∀r∈q,live N r)(ht:kJ n af N q v)(t:Bool→Bool→Bool→Bool)(b:Bool):jA t S (dH N v b q)=fun x=>jA t S q (aQ x v b):=by
 funext x
 have key:∀i,i<3→S ((dH N v b q).getD i 0) x=S (q.getD i 0) (aQ x v b):=fun i Av=>by
  have hi':i<q.length:=by omega
  rw[wI hi']
  have hm:q.getD i 0∈q:=by rw[List.getD_eq_getElem?_getD,List.getElem?_eq_getElem hi'];exact List.getElem_mem _
  exact(ig h hl hi (hq _ hm) ht.lt (ht.le _ hm) b).1 x
 unfold jA
 rw[key 0 (by omega),key 1 (by omega),key 2 (by omega)]
theorem tE(h:WF n af N)(hl:kX n af)(hi:Interp N S){ord:List Nat}(ho:Ord n af ord)(h3:q.length=3)(hq:∀r∈q,live N r){l:Nat}(A4:l≤n)(hle:∀r∈q,l≤dep n af N r)(t:Bool→Bool→Bool→Bool):∀j,j<l→¬cU (jA t S q) (ord.getD j 0):=by
 rintro j hj ⟨x,hx⟩
 apply hx
 obtain⟨o1,o2⟩:=ho.ik j (by omega)
 have key:∀i,i<3→∀b,S (q.getD i 0) (aQ x (ord.getD j 0) b)=S (q.getD i 0) x:=fun i Av b=>by
  have hi':i<q.length:=by omega
  have hm:q.getD i 0∈q:=by rw[List.getD_eq_getElem?_getD,List.getElem?_eq_getElem hi'];exact List.getElem_mem _
  exact h.bB hl hi (hq _ hm) o1 (by rw[o2];exact Nat.lt_of_lt_of_le hj (hle _ hm)) x b
 unfold jA
 simp only[key 0 (by omega),key 1 (by omega),key 2 (by omega)]
theorem tF(hi:Interp N S)(h3:q.length=3)(hq:∀r∈q,r<2)(t:Bool→Bool→Bool→Bool)(x:Nat):jA t S q x=t (decide (q.getD 0 0=1)) (decide (q.getD 1 0=1)) (decide (q.getD 2 0=1)):=by
 have key:∀i,i<3→S (q.getD i 0) x=decide (q.getD i 0=1):=fun i Av=>by
  have hi':i<q.length:=by omega
  have hm:q.getD i 0∈q:=by rw[List.getD_eq_getElem?_getD,List.getElem?_eq_getElem hi'];exact List.getElem_mem _
  have:=hq _ hm
  have h2:q.getD i 0=0∨q.getD i 0=1:=by omega
  rcases h2 with e|e<;>rw[e]
  ·rw[hi.zero];rfl
  ·rw[hi.one];rfl
 unfold jA
 rw[key 0 (by omega),key 1 (by omega),key 2 (by omega)]
theorem uS(h:WF n af N):∀{q:List Nat},(∃r∈q,∃d,N r=some d)→(hl:kX n af)→∃v,kJ n af N q v
 | [],he,_=>by obtain⟨r,hr,_⟩:=he;cases hr
 |s::q,he,hl=>by
  by_cases hq:∃r∈q,∃d,N r=some d
  ·obtain⟨v,hv⟩:=uS h hq hl
   cases es:N s with
   |none=>
    refine⟨v,hv.lt,?_,fun r hr=>?_⟩
    ·obtain⟨r,hr,x⟩:=hv.ex;exact⟨r,by simp[hr],x⟩
    ·rcases List.mem_cons.1 hr with rfl|hr
     ·rw[aO es];exact Nat.le_of_lt (hl.lt v hv.lt)
     ·exact hv.le r hr
   |some d=>
    by_cases hlt:af d.v≤af v
    ·refine⟨d.v,h.var es,⟨s,by simp,d,es,rfl⟩,fun r hr=>?_⟩
     rcases List.mem_cons.1 hr with rfl|hr
     ·rw[ag es];exact Nat.le_refl _
     ·exact Nat.le_trans hlt (hv.le r hr)
    ·refine⟨v,hv.lt,?_,fun r hr=>?_⟩
     ·obtain⟨r,hr,x⟩:=hv.ex;exact⟨r,by simp[hr],x⟩
     ·rcases List.mem_cons.1 hr with rfl|hr
      ·rw[ag es];omega
      ·exact hv.le r hr
  ·obtain⟨r,hr,d,hd⟩:=he
   rcases List.mem_cons.1 hr with rfl|hr
   ·refine⟨d.v,h.var hd,⟨r,by simp,d,hd,rfl⟩,fun s hs=>?_⟩
    rcases List.mem_cons.1 hs with rfl|hs
    ·rw[ag hd];exact Nat.le_refl _
    ·have:N s=none:=by
      cases e:N s with
      |none=>rfl
      |some d'=>exact absurd ⟨s,hs,d',e⟩ hq
     rw[aO this];exact Nat.le_of_lt (hl.lt _ (h.var hd))
   ·exact absurd ⟨r,hr,d,hd⟩ hq
theorem xE(h:WF n af N)(hl:kX n af)(hi:Interp N S):∀(k l:Nat) (q:List Nat),n-l≤k→l≤n→(∀r∈q,live N r)→(∀r∈q,l≤dep n af N r)→∃c,Tree n af N q c∧c+1≤2^(n-l):=by
 intro k
 induction k with
 |zero=>
  intro l q hk A4 hq hd
  refine⟨0,.leaf fun r hr=>?_,Nat.one_le_two_pow⟩
  cases e:N r with
  |none=>rfl
  |some d=>have:=hd r hr;rw[ag e]at this;have:=hl.lt _ (h.var e);omega
 |succ k ih=>
  intro l q hk A4 hq hd
  by_cases he:∃r∈q,∃d,N r=some d
  ·obtain⟨v,hv⟩:=uS h he hl
   have hlv:=hl.lt v hv.lt
   have ti:l≤af v:=by
    obtain⟨r,hr,d,dj,rfl⟩:=hv.ex
    have:=hd r hr
    rwa [ag dj]at this
   obtain⟨f1,f2⟩:=jF (S:=S) h hl hi hq hv false
   obtain⟨t1,t2⟩:=jF (S:=S) h hl hi hq hv true
   obtain⟨a,ha,tw⟩:=ih (af v+1) _ (by omega) hlv f1 f2
   obtain⟨b,hb,nm⟩:=ih (af v+1) _ (by omega) hlv t1 t2
   refine⟨a+b+1,.node hv ha hb,?_⟩
   have e1:2^(n-af v)=2*2^(n-(af v+1)):=by
    rw[show n-af v=(n-(af v+1))+1 by omega,Nat.pow_succ,Nat.mul_comm]
   have e2:2^(n-af v)≤2^(n-l):=Nat.pow_le_pow_right (by decide) (by omega)
   omega
  ·refine⟨0,.leaf fun r hr=>?_,Nat.one_le_two_pow⟩
   cases e:N r with
   |none=>rfl
   |some d=>exact absurd ⟨r,hr,d,e⟩ he
def eY(N:cP)(v:Nat)(b:Bool)(q:List Nat)(i:Nat):List Nat:=(dH N v b q).take i++q.drop i
theorem nT{b:Bool}{i:Nat}(hi:i≤q.length):(eY N v b q i).length=q.length:=by simp[eY,dH];omega
theorem lJ(b:Bool):eY N v b q 0=q:=by simp[eY]
theorem vv(b:Bool):eY N v b q q.length=dH N v b q:=by
 unfold eY
 rw[List.take_of_length_le (by rw[wH];exact Nat.le_refl _),List.drop_length,List.append_nil]
theorem iK{b:Bool}{i r:Nat}(hr:q[i]? =some r):(eY N v b q i).set i (dk N v b r)=eY N v b q (i+1):=by
 have hi:=(List.getElem?_eq_some_iff.1 hr).1
 have he:=(List.getElem?_eq_some_iff.1 hr).2
 have hl:((dH N v b q).take i).length=i:=by simp[dH];omega
 have hc:(dH N v b q)[i]? =some (dk N v b r):=by simp[dH,hr]
 unfold eY
 rw[List.set_append_right _ _ (by omega),hl,Nat.sub_self,List.drop_eq_getElem_cons hi,List.set_cons_zero,List.take_add_one,hc,List.append_assoc]
 rfl
theorem lK{b:Bool}{i r:Nat}(hr:q[i]? =some r)(h:dk N v b r=r):eY N v b q (i+1)=eY N v b q i:=by
 rw[←iK hr,h]
 have hi:=(List.getElem?_eq_some_iff.1 hr).1
 have he:=(List.getElem?_eq_some_iff.1 hr).2
 have hl:((dH N v b q).take i).length=i:=by simp[dH];omega
 unfold eY
 rw[List.set_append_right _ _ (by omega),hl,Nat.sub_self,List.drop_eq_getElem_cons hi,List.set_cons_zero,he]
end
end aq
set_option maxRecDepth 100000
namespace Go.Proofs
open Go Go.Sx
open aq
noncomputable instance {K:Kd}{S:Nat→aq.Fn}{ord:List Nat}{l:Nat}:Decidable (D9 K S ord l):=Nat.decLe _ _
end Go.Proofs
set_option maxRecDepth 100000
namespace Go.Proofs
open Go Go.Sx
open aq
def rep(b a s:Nat):Value:=.agg #[.int .i64 (b:Int),.int .i64 (a:Int),.int .i64 (s:Int),.bool false]
theorem bH{ws:List Nat}{i:Nat}(h:i<ws.length):(iw ws)[i]? =some ((ws.getD i 0:Nat):Int):=by
 rw[iM (w:=ws.getD i 0)]
 rw[List.getD_eq_getElem?_getD,List.getElem?_eq_getElem h];rfl
theorem vG{B:Hp}{v1 v2:Value}{a b:List Int}(h1:dw .i64 B v1 a)(h2:dw .i64 B v2 b)(bL:a.length<4611686018427387904):Rd Tryz.prog 25 #[v1,v2] B (· =.bool (decide (a=b))):=by
 refine aX fun g=>uA ?_
 refine h1.cN (h2.cN ?_)
 refine ae.D4 (Br.dec (fun hne=>bF.mk (.refl _) (by rw[decide_eq_false (fun e=>hne (by rw[e]))])) (fun heq=>?_))
 have hl:a.length=b.length:=by omega
 refine⟨fun vs H=>∃i:Nat,vs=[.int .i64 (i:Int)]∧H=B∧i≤a.length∧∀j,j<i→a[j]? =b[j]?,fun vs _=>a.length-cj vs 0,JE.mk ⟨0,rfl,rfl,Nat.zero_le _,fun j hj=>absurd hj (Nat.not_lt_zero _)⟩,?_⟩
 rintro w H ⟨i,⟨⟩,rfl,hi,hq⟩ gs
 refine h1.cN (ae.jB (Br.dec (fun hlt=>?_) (fun hlt=>?_)))
 ·refine h1.ld (List.getElem?_eq_getElem hlt) (fun _ h=>h) ?_
  refine h2.ld (List.getElem?_eq_getElem (show i<b.length by omega)) (fun _ h=>h) ?_
  refine ae.ep (Br.dec (fun hne=>bF.mk (.refl _) ?_) (fun heq=>?_))
  ·rw[decide_eq_false]
   intro e;subst e;exact hne rfl
  ·refine ae.inc ?_
   refine av.of (.refl _) ⟨i+1,rfl,rfl,hlt,fun j hj=>?_⟩ (by show a.length-(((i+1:Nat):Int).toNat)<a.length-(((i:Nat):Int).toNat);omega)
   by_cases e:j=i
   ·subst e
    rw[List.getElem?_eq_getElem hlt,List.getElem?_eq_getElem (show j<b.length by omega),Classical.not_not.1 heq]
   ·exact hq j (by omega)
 ·refine bF.mk (.refl _) ?_
  rw[decide_eq_true]
  apply List.ext_getElem? fun j=>?_
  by_cases hj:j<i
  ·exact hq j hj
  ·rw[List.getElem?_eq_none (by omega),List.getElem?_eq_none (by omega)]
def Bz(n:Nat)(p:List Int):Prop:=p.length=n∧∀v:Nat,v<n→p.count (v:Int)=1
instance (n:Nat)(p:List Int):Decidable (Bz n p):=by unfold Bz;infer_instance
theorem yQ(a k:Nat):decide ((a>>>k)%2=1)=a.testBit k:=by
 cases hb:a.testBit k
 ·rw[decide_eq_false];rw[dQ.sB,hb];simp
 ·rw[decide_eq_true];rw[dQ.sB,hb]
theorem wv{ord:List Nat}{F G:aq.Fn→Prop}(h:∀g,F g→G g):∀l g,fs ord F l g→fs ord G l g
 |0,g,hg=>h g hg
 |l+1,g,⟨f,hf,b,e⟩=>⟨f,wv h l f hf,b,e⟩
theorem c5{n:Nat}{ord:List Nat}{F G:aq.Fn→Prop}(h:∀g,F g→G g){g:aq.Fn}(hg:aA n ord F g):aA n ord G g:=let ⟨l,a,b,c⟩:=hg;⟨l,a,wv h l g b,c⟩
structure mG(K:Kd)(S:Nat→aq.Fn)(K':Kd)(S':Nat→aq.Fn)(f:aq.Fn)(r:Nat):Prop where
 n:K'.n=K.n
 cap:K'.cap=K.cap
 N:∀s d,K.N s=some d→K'.N s=some d
 fn:∀s,live K.N s→S' s=S s
 live:live K'.N r
 is:S' r=f
 hold:∀s,K'.hold s=K.hold s+if s=r∧2≤r then 1 else 0
theorem gb{N N':cP}(h:∀s d,N s=some d→N' s=some d){s:Nat}(hs:live N s):live N' s:=by
 rcases hs with hs|⟨d,hd⟩
 ·exact .inl hs
 ·exact .inr ⟨d,h s d hd⟩
theorem pE{K K5:Kd}{S S5:Nat→aq.Fn}{af:Nat→Nat}(hK:Ok K S af)(DE:Ok K5 S5 af)(hold:∀s,K.hold s≠0→K5.hold s≠0)(h3:∀s d d',K.N s=some d→K5.N s=some d'→d'=d):
  ∀(k s:Nat) (d:Nd),K.N s=some d→af d.v≤k→K5.N s=some d:=by
 intro k
 induction k with
 |zero=>
  intro s d hd hl
  have fin:live K5.N s→K5.N s=some d:=fun hs=>by
   rcases hs with hs|⟨d',dj⟩
   ·have:=(hK.mid.two hd).1;omega
   ·rw[dj,h3 s d d' hd dj]
  rcases hK.reach s d hd with h|⟨p,e,hp,he⟩
  ·exact fin (.inr (DE.mid.held s (hold s h)))
  ·have h1:=hK.wf.lo hp
   have h2:=hK.wf.hi hp
   rcases he with rfl|rfl
   ·have:=h1.2;rw[ag hd]at this;omega
   ·have:=h2.2;rw[ag hd]at this;omega
 |succ k ih=>
  intro s d hd hl
  have fin:live K5.N s→K5.N s=some d:=fun hs=>by
   rcases hs with hs|⟨d',dj⟩
   ·have:=(hK.mid.two hd).1;omega
   ·rw[dj,h3 s d d' hd dj]
  rcases hK.reach s d hd with h|⟨p,e,hp,he⟩
  ·exact fin (.inr (DE.mid.held s (hold s h)))
  ·have h1:=hK.wf.lo hp
   have h2:=hK.wf.hi hp
   rcases he with rfl|rfl
   ·have:=h1.2;rw[ag hd]at this
    exact fin (DE.mid.lo (ih p e hp (by omega)))
   ·have:=h2.2;rw[ag hd]at this
    exact fin (DE.mid.hi (ih p e hp (by omega)))
end Go.Proofs
namespace aq
open dQ
section
variable {K:Kd} {S:Nat→Fn} {af:Nat→Nat}
theorem Ok.xY(h:Ok K S af){d e:Nd}{r:Nat}
 (hlo:live K.N d.lo)(hhi:live K.N d.hi)(hne:d.lo≠d.hi)(hv:d.v<K.n)(hlt:af d.v<dep K.n af K.N d.lo∧af d.v<dep K.n af K.N d.hi)(hr:K.N r=some e)(xl:S r=ite S d):e=d:=by
 have vN:e.v=d.v:=by
  have e1:=h.lv.lt e.v (h.mid.var hr)
  have e2:=h.lv.lt d.v hv
  rcases Nat.lt_trichotomy (af e.v) (af d.v)with hh|hh|hh
  ·exfalso
   obtain⟨z,hz⟩:=eW h.wf h.lv h.mid.int hr
   rw[xl]at hz
   apply hz
   unfold ite
   have i1:=h.wf.bB h.lv h.mid.int hlo (h.mid.var hr) (by omega)
   have i2:=h.wf.bB h.lv h.mid.int hhi (h.mid.var hr) (by omega)
   have zx:d.v≠e.v:=fun iC=>by rw[iC]at hh;omega
   simp only[ak,if_neg zx,i1,i2]
  ·exact h.lv.inj _ _ (h.mid.var hr) hv hh
  ·exfalso
   have hx:=h.wf.bB h.lv h.mid.int (r:=r) (.inr ⟨e,hr⟩) hv (by rw[ag hr];exact hh)
   apply hne
   refine h.wf.same h.lv h.mid.int hlo hhi fun x=>?_
   have i1:=h.wf.bB h.lv h.mid.int hlo hv hlt.1
   have i2:=h.wf.bB h.lv h.mid.int hhi hv hlt.2
   have q1:=hx x false
   have q2:=hx x true
   rw[xl]at q1 q2
   have q3:=q1.trans q2.symm
   unfold ite at q3
   simp only[ak,if_true,i1,i2,Bool.false_eq_true,if_false]at q3
   exact q3
 have fN:∀(b:Bool) x,S (if b then e.hi else e.lo) x=S (if b then d.hi else d.lo) x:=fun b x=>by
  rw[←h.wf.child h.lv h.mid.int hr x b,xl,vN]
  have i1:=h.wf.bB h.lv h.mid.int hlo hv hlt.1
  have i2:=h.wf.bB h.lv h.mid.int hhi hv hlt.2
  unfold ite
  rw[ak,if_pos rfl,i1,i2]
  cases b<;>rfl
 have e1:e.lo=d.lo:=h.wf.same h.lv h.mid.int (h.mid.lo hr) hlo fun x=>fN false x
 have e2:e.hi=d.hi:=h.wf.same h.lv h.mid.int (h.mid.hi hr) hhi fun x=>fN true x
 have B5:∀a b:Nd,a.v=b.v→a.lo=b.lo→a.hi=b.hi→a=b:=fun a b h1 h2 h3=>by
  cases a;cases b;cases h1;cases h2;cases h3;rfl
 exact B5 e d vN e1 e2
end
end aq
set_option maxRecDepth 100000
namespace Go.Proofs
open Go Go.Sx
open aq
def cR(bw kp:Nat)(vl vm:Value):Nat×Obj:=(bw,.cells #[ptr kp,vl,vm] 305 (0,0))
abbrev Q3:=Nat×Nat×Nat
def l3(q:Q3):List Nat:=[q.1,q.2.1,q.2.2]
def kq(q:Q3):Value:=.agg (ai .u32 (iw (l3 q)))
theorem ym{a b:List Nat}(h:iw a=iw b):a=b:=by
 induction a generalizing b with
 |nil=>cases b with
  |nil=>rfl
  |cons y b=>simp[iw]at h
 |cons x a ih=>cases b with
  |nil=>simp[iw]at h
  |cons y b=>
   simp only[iw,List.map_cons,List.cons.injEq]at h
   rw[Int.ofNat.inj h.1,ih h.2]
theorem Ag{a b:Q3}(h:l3 a=l3 b):a=b:=by
 obtain⟨a1,a2,a3⟩:=a
 obtain⟨b1,b2,b3⟩:=b
 simp[l3]at h
 rw[h.1,h.2.1,h.2.2]
theorem jX(a b:Q3):sK Tryz.prog 236 (kq a) (kq b) (decide (a=b)):=by
 have:=sK.array (P:=Tryz.prog) (t:=236) (e:=110) (q:=.u32) (n:=3) (by kernel_rfl) (by kernel_rfl) (by kernel_rfl) (iw (l3 a)) (iw (l3 b)) rfl rfl
 have e:decide (iw (l3 a)=iw (l3 b))=decide (a=b):=decide_eq_decide.2 ⟨fun h=>Ag (ym h),fun h=>by rw[h]⟩
 rw[e]at this;exact this
theorem gI(a:Q3):gP Tryz.prog 236 (kq a):=gP.array (P:=Tryz.prog) (t:=236) (e:=110) (q:=.u32) (n:=3) (by kernel_rfl) (by kernel_rfl) (by kernel_rfl) _ rfl
theorem mV(a:Q3):Instr.sameBits 10000 (kq a) (kq a)=true:=gp 9998 fun x hx=>.inl (by simp[ai]at hx;obtain⟨n,_,rfl⟩:=hx;exact⟨_,_,rfl⟩)
section
variable {kp bw:Nat} {vl vm:Value} {K:Kd} {S:Nat→aq.Fn} {ord af tr:List Nat} {C:Hp}
theorem tM{H:Hp}{r:List Value}{K:Value→Hp→Prop}(hl:r.length=3)(h:∀b,K (.slice (some ⟨b,0,none⟩) 1 1) ((b,.cells r.toArray 226 (0,0))::H)):an Tryz.prog 309 1 [(0,.agg r.toArray)] H K:=
 an.one (r:=r) (e:=226) (k:=3) (z:=.agg #[.int .i64 0,.int .u32 0,.int .u32 0]) (by kernel_rfl) (by kernel_rfl) (by kernel_rfl) (by decide) hl h
theorem mr{X Y:Hp}(h:cB kp K ord af tr C)(q:Q3)(hq:∀r∈l3 q,r<4294967296):
  Fc Tryz.prog 253 #[ptr bw,kq q] (cR bw kp vl vm::(X++(Y++C))) (fun v H=>∃CN,H=CN++(cR bw kp vl vm::(X++(Y++C)))∧aD 226 3 v ((l3 q).map (got K.N)) CN):=by
 have hlen:(l3 q).length=3:=rfl
 refine aX fun g=>qE ?_
 intro b1 _
 refine aB.q ?_
 refine⟨fun vs H=>∃(i:Nat) (u:Value) (CN:Hp),vs=[u,.int .i64 (i:Int)]∧i≤3∧H=CN++((b1,.cells (ai .u32 (iw (l3 q))) 236 (0,0))::(cR bw kp vl vm::(X++(Y++C))))∧aD 226 3 u (((l3 q).take i).map (got K.N)) CN,fun vs _=>3-cj vs 1,
  JE.mk ⟨0,_,[],rfl,by omega,rfl,aD.nil _ _⟩,?_⟩
 rintro w8 w9 H ⟨i,u,CN,⟨⟩,hi,rfl,hN⟩ gs
 refine ae.jB (b:=3) (Br.dec (fun hlt=>?_) (fun hlt=>?_))
 ·have jx:i<(l3 q).length:=hlt
  obtain⟨r,hr⟩:∃r,(l3 q)[i]? =some r:=⟨_,List.getElem?_eq_getElem jx⟩
  have Ek:=hq r (List.mem_of_getElem? hr)
  refine dn.CP (t:=236) (e:=110) (q:=.u32) (x:=.tmp 10) (i:=.tmp 11) (l:=iw (l3 q)) (z:=(r:Int)) (kd:=.i64) (n:=3) (j:=i) (by kernel_rfl) rfl rfl (by kernel_rfl) (by kernel_rfl) (by kernel_rfl) hlt (iM hr) ?_
  refine Ld.n ?_
  refine aa.eq (args:=#[ptr kp,u32 r]) (g8 h Ek) ?_
  refine Ext.two ?_
  intro GJ _
  refine St.whole (r:=got K.N r) (by exact .head _) rfl (aJ _ _).1 (aJ _ _).2 ?_
  refine aB.whole (r:=got K.N r) (by exact .head _) (aJ _ _).1 ?_
  refine tM (aJ _ _).1 fun bx=>?_
  refine hN.oN (r:=got K.N r) (.cons (.cons .left)) (by exact .head _) (aJ _ _).1 (aJ _ _).2 ⟨[.int .i64 0,.int .u32 0,.int .u32 0],rfl,rfl⟩ (by simp;omega) (by simp;omega) fun v' C' ho=>?_
  refine ae.inc ?_
  refine av.of (.skip .tail) ⟨i+1,v',C',rfl,by omega,rfl,?_⟩ (by simp only[cj];omega)
  rw[List.take_add_one,hr,List.map_append];exact ho
 ·obtain rfl:i=3:=by omega
  rw[List.take_of_length_le (by rw[hlen];exact Nat.le_refl _)]at hN
  exact aY.mk (.cZ .tail _) ⟨CN,rfl,hN⟩
theorem sC{n:Nat}{nW:Nat→Nat}{N:cP}{B:Hp}{vn:Value}{lvl:List Nat}(hw:cR bw kp vl vm∈B)(hl:dw .i64 B vl (iw lvl))(ti:lvl.length=n)(hlv:∀v,v<n→lvl.getD v 0=nW v)(q:Q3)(hn:Sl 3 B vn ((l3 q).map (got N)))
 (h:WF n nW N)(hL:kX n nW)(hq:∀r∈l3 q,live N r)(vR:n≤64):
  Rd Tryz.prog 254 #[ptr bw,vn] B (fun r=>((∀s∈l3 q,N s=none)∧r=.int .i64 (-1))∨∃v,kJ n nW N (l3 q) v∧r=.int .i64 (v:Int)):=by
 have hlen:(l3 q).length=3:=rfl
 refine aX fun g=>qD ?_
 refine hn.cN ?_
 rw[List.length_map,hlen]
 refine⟨fun vs H=>∃(i:Nat) (w:Int),vs=[.int .i64 w,.int .i64 (i:Int)]∧i≤3∧H=B∧(((∀s∈(l3 q).take i,N s=none)∧w= -1)∨∃v:Nat,kJ n nW N ((l3 q).take i) v∧w=(v:Int)),fun vs _=>3-cj vs 1,
  JE.mk ⟨0, -1,rfl,by omega,rfl,.inl ⟨by simp,rfl⟩⟩,?_⟩
 rintro w6 w7 H ⟨i,w,⟨⟩,hi,rfl,Dk⟩ gs
 refine ae.jB (b:=3) (Br.dec (fun hlt=>?_) (fun hlt=>?_))
 ·intro J hJ
  have jx:i<(l3 q).length:=hlt
  obtain⟨r,hr⟩:∃r,(l3 q)[i]? =some r:=⟨_,List.getElem?_eq_getElem jx⟩
  have r9:(l3 q).take (i+1)=(l3 q).take i++[r]:=by rw[List.take_add_one,hr];rfl
  have fin:∀(w':Int) (Z:Hp),((∀s∈(l3 q).take (i+1),N s=none)∧w'= -1)∨(∃v:Nat,kJ n nW N ((l3 q).take (i+1)) v∧w'=(v:Int))→J [.int .i64 w'] (Z++H):=fun w' Z h'=>hJ _ _ fun gs=>by
   refine ae.inc ?_
   exact av.of .right ⟨i+1,w',rfl,by omega,rfl,h'⟩ (by simp only[cj];omega)
  have hrow:((l3 q).map (got N))[i]? =some (got N r):=by rw[List.getElem?_map,hr];rfl
  refine ah.sl hn hrow fun p hp=>?_
  refine aB.at hp (aJ _ _).1 (by decide) (fun _ h=>h) ?_
  intro iD _
  refine St.whole (r:=got N r) (by exact .head _) rfl (aJ _ _).1 (aJ _ _).2 ?_
  have hlr:=hq r (List.mem_of_getElem? hr)
  cases hN:N r with
  |none=>
   have oa:r<2:=by rcases hlr with h2|⟨d,hd⟩;exact h2;rw[hN]at hd;cases hd
   have eg:got N r=[.int .i64 (-1),u32 r,u32 r]:=dL oa
   rw[eg]
   refine Ld.f ?_
   refine ae.geq ?_
   refine cW.mk false (fun h=>by simp at h) (fun _=>rfl) fun gs=>Br.no ?_
   refine JE.mk (fin w [_] ?_)
   rcases Dk with⟨h1,h2⟩|⟨v,h1,h2⟩
   ·refine .inl ⟨fun s hs=>?_,h2⟩
    rw[r9,List.mem_append,List.mem_singleton]at hs
    rcases hs with hs|rfl
    ·exact h1 s hs
    ·exact hN
   ·refine .inr ⟨v,⟨h1.lt,?_,fun s hs=>?_⟩,h2⟩
    ·obtain⟨s,hs,x⟩:=h1.ex;exact⟨s,by rw[r9];exact List.mem_append_left _ hs,x⟩
    ·rw[r9,List.mem_append,List.mem_singleton]at hs
     rcases hs with hs|rfl
     ·exact h1.le s hs
     ·rw[aO hN];exact Nat.le_of_lt (hL.lt v h1.lt)
  |some d=>
   have h2:=h.two hN
   have tt:=h.var hN
   have eg:got N r=dB d:=dh hN h2
   rw[eg]
   refine Ld.f ?_
   refine ae.geq ?_
   rw[decide_eq_true (by omega)]
   have nC:(∀s∈(l3 q).take i,nW d.v≤dep n nW N s)→∃v:Nat,kJ n nW N ((l3 q).take (i+1)) v∧(d.v:Int)=(v:Int):=fun hle=>by
    refine⟨d.v,⟨tt,⟨r,by rw[r9];simp,d,hN,rfl⟩,fun s hs=>?_⟩,rfl⟩
    rw[r9,List.mem_append,List.mem_singleton]at hs
    rcases hs with hs|rfl
    ·exact hle s hs
    ·rw[ag hN];exact Nat.le_refl _
   rcases Dk with⟨h1,rfl⟩|⟨v,h1,rfl⟩
   ·refine cW.and true (fun _=>?_) rfl fun gs=>Br.yes ?_
    ·refine ae.lss ?_
     exact cW.mk true (fun h=>by simp at h) (fun _=>rfl) fun gs=>⟨rfl,rfl⟩
    ·refine Ld.f ?_
     refine JE.mk (fin (d.v:Int) [_] (.inr (nC fun s hs=>?_)))
     rw[aO (h1 s hs)];exact Nat.le_of_lt (hL.lt _ tt)
   ·have g1:(iw lvl)[d.v]? =some ((nW d.v:Nat):Int):=by rw[←hlv d.v tt];exact bH (by omega)
    have g2:(iw lvl)[v]? =some ((nW v:Nat):Int):=by rw[←hlv v h1.lt];exact bH (by have:=h1.lt;omega)
    refine cW.and (decide (nW d.v<nW v)) (fun _=>?_) rfl fun gs=>?_
    ·refine ae.lss ?_
     rw[decide_eq_false (by omega)]
     refine cW.or (decide (nW d.v<nW v)) (fun _=>?_) rfl fun gs=>⟨rfl,by simp⟩
     refine Ld.v (.tail _ hw) ?_
     refine Ld.f ?_
     refine hl.ld g1 (fun _ h=>.tail _ h) ?_
     refine Ld.v (.tail _ hw) ?_
     refine hl.ld g2 (fun _ h=>.tail _ h) ?_
     exact ae.jB ⟨rfl,rfl⟩
    ·rw[Bool.true_and]
     refine Br.dec (fun BV=>?_) (fun BV=>?_)
     ·refine Ld.f ?_
      refine JE.mk (fin (d.v:Int) [_] (.inr (nC fun s hs=>?_)))
      have:=h1.le s hs;omega
     ·refine JE.mk (fin (v:Int) [_] (.inr ⟨v,⟨h1.lt,?_,fun s hs=>?_⟩,rfl⟩))
      ·obtain⟨s,hs,x⟩:=h1.ex;exact⟨s,by rw[r9];exact List.mem_append_left _ hs,x⟩
      ·rw[r9,List.mem_append,List.mem_singleton]at hs
       rcases hs with hs|rfl
       ·exact h1.le s hs
       ·rw[ag hN];omega
 ·obtain rfl:i=3:=by omega
  rw[List.take_of_length_le (by rw[hlen];exact Nat.le_refl _)]at Dk
  refine bF.mk (.refl _) ?_
  rcases Dk with⟨h1,rfl⟩|⟨v,h1,rfl⟩
  ·exact .inl ⟨h1,rfl⟩
  ·exact .inr ⟨v,h1,rfl⟩
theorem ta(h:ct kp K S ord af tr C){v lo hi:Nat}(hv:v<K.n)(hlo:live K.N lo)(hhi:live K.N hi)(hlt:lv af v<dep K.n (lv af) K.N lo∧lv af v<dep K.n (lv af) K.N hi):
  Rd Tryz.prog 323 #[ptr kp,.int .i64 (v:Int),u32 lo,u32 hi] C (· =if lo=hi then .tuple #[u32 lo,.bool true]else .tuple #[u32 ((K.T ⟨v,lo,hi⟩).getD 0),.bool (K.T ⟨v,lo,hi⟩).isSome]):=by
 have Es:=h.cT hlo
 have Ey:=h.cT hhi
 have BX:=bc.2 hlo
 have yw:=bc.2 hhi
 have EG:gx K af (v:Int) lo hi=0:=by
  unfold gx
  rw[if_neg (by omega),if_neg (by rw[BX,yw];simp),if_neg]
  rintro⟨hne,hmin⟩
  simp only[Int.toNat_natCast,lv]at hmin hlt;omega
 refine aX fun g=>qk ?_
 intro J hJ
 refine ae.bC (Split.go rfl ?_)
 refine aa.eq (su h.rep (v:Int) (by omega) (by omega) (fun r d hd=>⟨h.ok.mid.var hd,(h.ok.mid.two hd).1⟩)) ?_
 rw[EG]
 refine ae.ep (ax.mk ?_)
 refine JE.mk (hJ _ _ fun gs=>?_)
 rw[decide_eq_false (by simp)]
 refine Br.no ?_
 refine aa.rq (rR h.rep (lo:=lo) (hi:=hi) hv) ?_
 rintro w hw
 subst hw
 by_cases he:lo=hi
 ·rw[if_pos he]
  exact Ext.mk rfl (Ext.mk rfl (bF.mk (.refl _) rfl))
 ·rw[if_neg he]
  exact Ext.mk rfl (Ext.mk rfl (bF.mk (.refl _) rfl))
theorem pD(h:ct kp K S ord af tr C){v lo hi r:Nat}(hv:v<K.n)(hlo:live K.N lo)(hhi:live K.N hi)(hlt:lv af v<dep K.n (lv af) K.N lo∧lv af v<dep K.n (lv af) K.N hi)(hr:live K.N r)(h2:2≤r)(hS:S r=ite S ⟨v,lo,hi⟩):
  Rd Tryz.prog 323 #[ptr kp,.int .i64 (v:Int),u32 lo,u32 hi] C (· =.tuple #[u32 r,.bool true]):=by
 refine(ta h hv hlo hhi hlt).mono ?_
 rintro w H ⟨e,rfl⟩
 refine⟨e,?_⟩
 by_cases he:lo=hi
 ·subst he
  rw[if_pos rfl,h.ok.wf.same h.ok.lv h.ok.mid.int hr hlo fun x=>by rw[hS];unfold aq.ite;split<;>rfl]
 ·rw[if_neg he]
  obtain⟨d,hd⟩:∃d,K.N r=some d:=by
   rcases hr with h3|h3
   ·omega
   ·exact h3
  have HZ:d=⟨v,lo,hi⟩:=h.ok.xY (d:=⟨v,lo,hi⟩) hlo hhi he hv hlt hd hS
  subst HZ
  rw[(h.ok.mid.kV _ r).2 ⟨hd,fun e=>e⟩];rfl
theorem p8(r v:Nat)(B:Hp):Rd Tryz.prog 255 #[ptr bw,.int .i64 (v:Int),u32 r,u32 r] B (· =.tuple #[u32 r,.int .i64 0]):=by
 refine aX fun g=>kO ?_
 exact ae.iR (Br.T (bF.mk (.refl _) rfl))
theorem wT{CM X:Hp}{made:List Nat}(h:ct kp K S ord af tr C){v lo hi:Nat}(hv:v<K.n)(hlo:live K.N lo)(hhi:live K.N hi)(hne:lo≠hi)(hlt:lv af v<dep K.n (lv af) K.N lo∧lv af v<dep K.n (lv af) K.N hi)
 (hM:au 110 .u32 vm (iw made) CM)(hlen:made.length≤1099511627776):
  Fc Tryz.prog 255 #[ptr bw,.int .i64 (v:Int),u32 lo,u32 hi] (cR bw kp vl vm::(X++(CM++C))) (fun w H=>
   (∃r K' S' C' zY AY,w=.tuple #[u32 r,.int .i64 0]∧H=cR bw kp vl zY::(X++(AY++C'))∧ct kp K' S' ord af [] C'∧jr K S K' S' (ite S ⟨v,lo,hi⟩) r∧au 110 .u32 zY (iw (made++[r])) AY)∨
   (w=.tuple #[u32 0,.int .i64 9]∧H=cR bw kp vl vm::(X++(CM++C))∧K.cap≤K.used∧K.T ⟨v,lo,hi⟩=none)∨
   (∃r,w=.tuple #[u32 r,.int .i64 0]∧H=cR bw kp vl vm::(X++(CM++C))∧live K.N r∧2≤r∧K.hold r=65535∧S r=ite S ⟨v,lo,hi⟩)):=by
 refine aX fun g=>kO ?_
 refine ae.lg (Br.CG hne ?_)
 refine Ld.n ?_
 refine aa.fq (r3 h hv hlo hhi (.inr hlt)) ?_
 rintro w C' (⟨r,K',S',rfl,eP,mk⟩|⟨r,rfl,rfl,hlr,Cz,hfull,A9⟩|⟨rfl,rfl,hcap,_,hT⟩)
 ·refine Ext.two ?_
  intro J hJ
  refine ae.iR (Br.T ?_)
  refine Ld.n ?_
  refine an.int (e:=110) (by kernel_rfl) (by kernel_rfl) (by kernel_rfl) fun bx=>?_
  refine hM.oN (x:=(r:Int)) (.cons (.cons (.app .left))) (by exact .head _) (by rw[aE];omega) (by rw[aE];omega) fun zY AY DC=>?_
  have h1:=DC.one
  refine Nil.ptr (aj.mk (St.one (by exact .tail (.head _)) h1 (by simp) rfl ?_))
  refine aY.mk .tail (.inl ⟨r,K',S',C',zY,AY,rfl,rfl,eP,mk,?_⟩)
  rw[cM];exact DC
 ·refine Ext.two ?_
  intro J hJ
  refine ae.iR (Br.F ?_)
  refine ae.iR (Br.T ?_)
  refine Ld.n ?_
  refine aa.eq (pD h hv hlo hhi hlt hlr Cz A9) ?_
  exact Ext.mk rfl (Ext.mk rfl (Br.yes (aY.here (.inr (.inr ⟨r,rfl,rfl,hlr,Cz,hfull,A9⟩)))))
 ·refine Ext.two ?_
  intro J hJ
  refine ae.iR (Br.F ?_)
  refine ae.iR (Br.F ?_)
  exact JE.mk (hJ _ fun gs=>aY.here (.inr (.inl ⟨rfl,rfl,hcap,hT⟩)))
end
end Go.Proofs
