import Derived.Test.YtpndkbhmngcmfaaGreatDoorJ1
import Derived.Defers
import Derived.Recover
import Derived.Test.YtpndkbhmngcmfaaGreatDoorProg
import Derived.Sort.AssemblyPlain
import Derived.RangeFuncIn
import Derived.RangeFuncLeaves
import Derived.RangeFuncRecord
import Derived.RangeFuncSeq
set_option linter.unusedVariables false
set_option linter.unusedSimpArgs false
set_option linter.unusedSectionVars false
namespace Go.Sx
open Go
section
variable {P:Program} {H C:Hp} {c:Hp->Hp}
theorem bf.split(h:bf C H c):∃A B,∀X,c X=A++(X++B):=by
 induction h with
 |here=>exact⟨[],[],λX=>by simp⟩
 | @left A=>exact⟨[],A,λX=>rfl⟩
 | @cons x H c h ih=>
  obtain⟨A,B,e⟩:=ih;exact⟨x::A,B,λX=>by show x::c X=_;rw[e];rfl⟩
 | @app A' H c h ih=>
  obtain⟨A,B,e⟩:=ih;exact⟨A'++A,B,λX=>by show A'++c X=_;rw[e,xau]⟩
theorem bf.sub(h:bf C H c):∀x∈C,x∈H:=λx hx=>by
 obtain⟨A,B,e⟩:=h.split;rw[h.spec.1,e];exact xaa _ (xac _ hx)
theorem bf.cz{b:Nat}{o o':Obj}{C':Hp}(h:bf C H c)(u:cm b o o' C C'):cm b o o' H (c C'):=by
 obtain⟨A,B,e⟩:=h.split;rw[h.spec.1,e,e];exact(u.append B).ax A
theorem ay.n8{elem k bytes:Nat}{zero:zV}{v:zV}{rs:List (List zV)}(h:ay elem k v rs C)(hh:bf C H c){xb:Nat}{r:List zV}{xT:TypeId}{fz:Nat×Nat}{xc:Nat}
 (hx:(xb,Obj.cells r.toArray xT fz)∈H)(hr:r.length=k)(h1:∀u∈r,u.oneCell'=true)(hz:∃z:List zV,zero.cells=z.toArray/\z.length=k)
 (hb:(rs.length+1)*bytes<=140737488355328)(mU:rs.length+1<=9223372036854775807){K:zV->Hp->Prop}
 (hk:∀v' C',ay elem k v' (rs++[r]) C'->K v' (c C')):App P elem k bytes zero H v (.slice (some ⟨xb,0,none⟩) 1 xc) K:=by
 obtain⟨A,B,e⟩:=hh.split;have e2:=hh.spec.1;rw[e]at e2;subst e2;exact h.DG hx hr h1 hz hb mU λv' C' ho=>by have:=hk v' C' ho;rwa [e]at this
theorem aO.n8{T:TypeId}{kd:IntKind}{v:zV}{l:List Int}{bytes:Nat}(h:aO T kd v l C)(hh:bf C H c){xb xc:Nat}{x:Int}{xT:TypeId}{fz:Nat×Nat}(hx:(xb,Obj.cells (aq kd [x]) xT fz)∈H)
 (hb:(l.length+1)*bytes<=140737488355328)(hm:l.length+1<=9223372036854775807){K:zV->Hp->Prop}(hk:∀v' C',aO T kd v' (l++[x]) C'->K v' (c C')):App P T 1 bytes (.int kd 0) H v (.slice (some ⟨xb,0,none⟩) 1 xc) K:=by
 obtain⟨A,B,e⟩:=hh.split;have e2:=hh.spec.1;rw[e]at e2;subst e2;exact h.app hx hb hm λv' C' ho=>by have:=hk v' C' ho;rwa [e]at this
theorem aO.Et{T:TypeId}{kd:IntKind}{v x:zV}{l l2:List Int}{bytes:Nat}(h:aO T kd v l C)(hh:bf C H c)(hx:e7 kd H x l2)
 (hb:(l.length+l2.length)*bytes<=140737488355328)(hm:l.length+l2.length<=9223372036854775807){K:zV->Hp->Prop}(hk:∀v' C',aO T kd v' (l++l2) C'->K v' (c C')):App P T 1 bytes (.int kd 0) H v x K:=by
 obtain⟨A,B,e⟩:=hh.split;have e2:=hh.spec.1;rw[e]at e2;subst e2;exact h.apps hx hb hm λv' C' ho=>by have:=hk v' C' ho;rwa [e]at this
theorem aO.px{T:TypeId}{kd qU:IntKind}{v:zV}{l:List Int}(hs:aO T kd v l C)(hh:bf C H c){i:Nat}{x:Int}(hi:i<l.length){K:Hp->Prop}
 (hk:∀C',aO T kd v (l.set i x) C'->K (c C')):ai 1 v (.int qU (i:Int)) λp=>St 1 H p (.int kd x) K:=by
 obtain⟨A,B,e⟩:=hh.split;have e2:=hh.spec.1;rw[e]at e2;subst e2;exact hs.put hi λC' ho=>by have:=hk C' ho;rwa [e]at this
theorem aO.one{T:TypeId}{kd:IntKind}{v:zV}{l:List Int}(h:aO T kd v l C):v.oneCell'=true:=by obtain⟨a,c,e⟩:=ay.len h;rw[e];rfl
theorem fj(l:zL)(i x:Nat):(iw l).set i (x:Int)=iw (l.set i x):=by unfold iw;rw[xda]
theorem dB(a b:zL):iw (a++b)=iw a++iw b:=by unfold iw;rw[xaz]
theorem bV{l:zL}{i:Nat}(h:i<l.length):(iw l)[i]? =some ((l.getD i 0:Nat):Int):=by
 rw[gO (xad h)];simp[List.getD,xad h]
end
end Go.Sx
namespace Go.Sx
open Go
theorem mM{p:Nat->Prop}(h:∃k,p k):∃k,p k/\∀j,p j->k<=j:=by
 obtain⟨k,hk⟩:=h;induction k using Nat.strongRecOn with
 |_ k ih=>
  by_cases e:∃j,j<k/\p j
  ·obtain⟨j,hj,hp⟩:=e;exact ih j hj hp
  exact⟨k,hk,λj hp=>xcP λhlt=>e ⟨j,hlt,hp⟩⟩
open Classical in
noncomputable def gL(J:Nat->List zV->Hp->Prop)(vs:List zV)(H:Hp):Nat:=if h:∃k,J k vs H then Classical.choose (mM h)else 0
theorem wK{J:Nat->List zV->Hp->Prop}{vs:List zV}{H:Hp}{k:Nat}(h:J k vs H):gL J vs H<=k:=by
 unfold gL;rw[dif_pos ⟨k,h⟩];exact(xcZ (mM ⟨k,h⟩)).2 k h
theorem qR{J:Nat->List zV->Hp->Prop}{vs:List zV}{H:Hp}(h:∃k,J k vs H):J (gL J vs H) vs H:=by
 unfold gL;rw[dif_pos h];exact(xcZ (mM h)).1
def gZ(J:Nat->List zV->Hp->Prop):List zV->Hp->Prop:=λvs H=>∃k,J k vs H
theorem gZ.open{J:Nat->List zV->Hp->Prop}{vs:List zV}{H:Hp}(h:gZ J vs H):∃k,J k vs H/\k=gL J vs H:=⟨_,qR h,rfl⟩
theorem gZ.mk{J:Nat->List zV->Hp->Prop}{vs:List zV}{H:Hp}(k:Nat)(h:J k vs H):JE (gZ J) vs H:=JE.mk ⟨k,h⟩
theorem gZ.back{J:Nat->List zV->Hp->Prop}{vs vs':List zV}{H H' H0:Hp}{k:Nat}(e:aM H H')(hk:k=gL J vs H0)(k':Nat)(h:J k' vs' H')(hlt:k'<k):aR (gZ J) (gL J) vs' H vs H0:=
 aR.of e ⟨k',h⟩ (xbg (wK h) zO)
theorem G7{vs:List zV}{H:Hp}{Q:(List zV->Hp->Prop)->(List zV->Hp->Nat)->Prop}(J:Nat->List zV->Hp->Prop)(k:Nat)(h:J k vs H)(hq:Q (gZ J) (gL J)):
  ∃(I:List zV->Hp->Prop) (m:List zV->Hp->Nat),JE I vs H/\Q I m:=⟨_,_,gZ.mk k h,hq⟩
section
variable {P:Program} {H:Hp}
theorem ak.D7{t e:Nat}{kd:IntKind}{x y:Int}{K:zV->Hp->Prop}(h1:P.underlying t=some (.slice e))(h2:bU P e=some 1)(h3:da P e=some (.int kd 0))
 (h:∀b,K (.slice (some ⟨b,0,Option.none⟩) 2 2) ((b,.cells (aq kd [x,y]) e zZ)::H)):ak P t 2 [(0,.int kd x),(1,.int kd y)] H K:=by
 refine⟨aq kd [x,y],e,1,_,h1,h2,h3,by decide,?_,λb _=>h b⟩;have e1:Array.range (2*1)=#[0,1]:=rfl;simp[Instr.fill,Value.cells,aq,e1]
theorem wx(kd:IntKind)(l:List Int):rows (l.map λn=>[Value.int kd n])=aq kd l:=by
 unfold rows aq;congr 1;induction l with
 |nil=>rfl
 |cons x l ih=>rw[xaC,xbT,ih];rfl
theorem aO.made{T:TypeId}{kd:IntKind}{b:Nat}(l:List Int):aO T kd (.slice (some ⟨b,0,none⟩) l.length l.length) l [(b,.cells (aq kd l) T zZ)]:=by
 have:=ay.mk' (T:=T) (k:=1) (b:=b) (n:=l.length) (c:=l.length) (rs:=l.map λn=>[Value.int kd n]) (aF:=[]) (λr hr=>by
  rw[xaR]at hr;obtain⟨x,_,rfl⟩:=xan.1 hr;rfl) zI zI
 rw[xaR,wx]at this;exact this
end
end Go.Sx
namespace Go.Sx
open Go
section
variable {P:Program} {g:Gh}
structure nG where
 f:FuncId
 l:List zV
def ik(P:Program)(g:Gh)(f:FuncId)(args:Array zV)(H:Hp)(R:Ending->Hp->Prop):Prop:=
 ∀w,Own g H w->∀u,CallsD P f args u w λe u' w'=>u'=u/\∃H',Own g H' w'/\R e H'
def gC(P:Program)(g:Gh)(f:FuncId)(args:Array zV)(H:Hp)(K:Hp->Prop):Prop:=ik P g f args H λe H'=>(∃v,e=.returned v)/\K H'
def y2(P:Program)(g:Gh)(K:Hp->Prop):List nG->Hp->Prop
 | [],H=>K H
 |x::r,H=>gC P g x.f x.l.toArray H (y2 P g K r)
def DO(P:Program)(o:Oper)(ρ:Operand->zV)(k:nG->Prop):Prop:=
 match o.op with
 | .defer c=>match c.callee with
  | .value x=>match ρ x with
   | .func (.func f) first cap=>cond (bE P f) (k ⟨f,first.toList++(c.args.toList.map ρ++cap.toList)⟩) False
   |_=>False
  |_=>False
 |_=>False
def vb:Code->Option (Array Oper×Oper)
 | .region _ ops false=>match ops.toList.getLast? with
  |some o=>match o.op with
   | .defer _=>some (ops,o)
   |_=>none
  |none=>none
 |_=>none
def Bh(P:Program)(g:Gh)(fn:Func)(R:Ending->Hp->Prop)(dl:List nG):Exit->Fr->Hp->Prop
 | .normal,fr,H=>y2 P g (λH'=>iU P fr H' fn.results.toList λvs=>R (.returned (mv vs)) H') dl H
 | .ret,fr,H=>y2 P g (λH'=>iU P fr H' fn.results.toList λvs=>R (.returned (mv vs)) H') dl H
 |_,_,_=>False
def sJ(P:Program)(g:Gh)(n:Nat)(E:List nG->Exit->Fr->Hp->Prop):Code->Hn->List nG->Fr->Hp->Prop
 | .seq x y,hn,dl,fr,H=>
  match vb x with
  |some (ops,o)=>cond (o.dst.isNone&&o.guard.isNone)
    (ct P g n ops false (ops.toList.length+1) false none [] ops.toList.dropLast fr H (λ_ fr' H'=>DO P o (ev fr') λd=>sJ P g n E y hn.b (d::dl) fr' H') (λ_ _=>False)) False
  |none=>match hn.m with
   |0=>den P g n x hn.a (qk (sJ P g n E y hn.b dl) (E dl)) fr H
   |_=>cond (CP x hn.I)
    (IJ hn.L.length (λvs H'=>∀gs,sJ P g n E y hn.b dl (mix hn.L vs hn.I fr gs) H') λJ=>den P g n x hn.a (qk (λfr' H'=>JE J (r3 fr' hn.L) H') (E dl)) fr H) False
 |c,hn,dl,fr,H=>den P g n c hn (E dl) fr H
def Bq(P:Program)(g:Gh)(fn:Func)(hn:Hn)(args:List zV)(H:Hp)(R:Ending->Hp->Prop):Prop:=
 match fn.body with
 |some c=>cond (Nat.ble args.length fn.ntmps) (sJ P g fn.ntmps (Bh P g fn R) c hn [] (eP args 0) H) False
 |none=>False
def MG:List PanicEntry->Hp->Prop:=λ_ _=>∀_:Fr,False
def LI(P:Program)(x:nG)(d:Deferred):Prop:=∃cap args,d={target:=.fn (.func x.f) cap,args:=args}/\args++cap=x.l.toArray/\bE P x.f=true
inductive kM(P:Program):List nG->List Deferred->Prop
 |nil:kM P [] []
 |cons {x d l ds} (h:LI P x d) (hr:kM P l ds):kM P (x::l) (d::ds)
theorem mu{fn:Func}{tmps:Array zV}{K:Hp->Prop}{R:Ending->World->Prop}(hK:∀H w,Own g H w->K H->∃v,(results fn tmps).run P w=.ok v w/\R (.returned v) w):
  ∀{dl:List nG} {ds:List Deferred},kM P dl ds->∀H w,Own g H w->y2 P g K dl H->Leaves P fn tmps R ds .returning w
 |_,_,.nil,H,w,hw,h=>hK H w hw h
 |_,_,.cons ⟨cap,args,hd,ha,hc⟩ hr,H,w,hw,h=>by
  subst hd;refine leaves_cons zI ?_ ((h w hw .returning).mono ?_)
  ·show(callFunc _ (args++cap)).run P w=_;rw[ha];exact cO hc _ w
  rintro e u' w' ⟨rfl,H',ho,⟨v,rfl⟩,hk⟩;exact mu hK hr H' w' ho hk
theorem jf{fn:Func}{R:Ending->Hp->Prop}{n:Nat}{dl:List nG}{ds:List Deferred}(hd:kM P dl ds){e:Exit}{fr:Fr}{H:Hp}{a:Act}{w:World}(ha:aY ds n a fr)(hw:Own g H w)(h:Bh P g fn R dl e fr H):
  bodyPostD P fn (λe w'=>∃H',Own g H' w'/\R e H') e a w:=by
 have key:∀{H},Own g H w->y2 P g (λH'=>iU P fr H' fn.results.toList λvs=>R (.returned (mv vs)) H') dl H->Leaves P fn a.tmps (λe w'=>∃H',Own g H' w'/\R e H') a.defers .returning w:=λhw h=>by
  rw[ha.defers];refine mu (λH w hw h=>?_) hd _ _ hw h;obtain⟨vs,hr,hk⟩:=df ha hw h;exact⟨_,hr,H,hw,hk⟩
 cases e with
 |normal=>exact key hw h
 |ret=>exact key hw h
 |panic ch=>exact h.elim
 |exit id=>exact h.elim
 |goto l=>exact h.elim
 |outgrown=>exact h.elim
theorem mR{c:Code}{ops:Array Oper}{o:Oper}(h:vb c=some (ops,o)):∃id d,c=.region id ops false/\ops.toList=ops.toList.dropLast++[o]/\o.op=.defer d:=by
 unfold vb at h;split at h
 ·rename_i id ops';split at h
  ·rename_i o' ho;split at h
   ·rename_i d hd;simp only[xao,xcM]at h;obtain⟨rfl,rfl⟩:=h;refine⟨id,d,rfl,?_,hd⟩;obtain⟨hne,e⟩:=List.getLast?_eq_some_iff.1 ho;rw[e];simp
   cases h
  cases h
 cases h
theorem rW{o:Oper}{fr:Fr}{k:nG->Prop}(h:DO P o (ev fr) k):∃x d,k x/\LI P x d/\∀w,(execOp (ev fr) o).run P w=.ok (.defer d) w:=by
 unfold DO at h;split at h<;>try exact h.elim
 rename_i c hop;split at h<;>try exact h.elim
 rename_i x hc;split at h<;>try exact h.elim
 rename_i f first cap hx
 cases fO:bE P f<;>simp only[fO,xal,xah]at h;refine⟨_,{target:=.fn (.func f) cap,args:=first++c.args.map (ev fr)},h,⟨cap,_,rfl,?_,fO⟩,λw=>?_⟩
 ·apply xb8;simp
 simp only[execOp,hop,resolve,hc,hx,Deferred.ofValue,Sem.run_bind,Sem.run_pure,Result.andThen_ok]
theorem sI{n:Nat}{fn:Func}{R:Ending->Hp->Prop}:∀(c:Code) (hn:Hn) (dl:List nG) (fr:Fr) (H:Hp),sJ P g n (Bh P g fn R) c hn dl fr H->∀(ds:List Deferred),kM P dl ds->∀(a:Act) (w:World),aY ds n a fr->Own g H w->
  c.wp P (bodyPostD P fn λe w'=>∃H',Own g H' w'/\R e H') a w:=by
 have plain:∀(c:Code) (hn:Hn) (dl:List nG) (fr:Fr) (H:Hp),den P g n c hn (Bh P g fn R dl) fr H->∀(ds:List Deferred),kM P dl ds->∀(a:Act) (w:World),aY ds n a fr->Own g H w->
   c.wp P (bodyPostD P fn λe w'=>∃H',Own g H' w'/\R e H') a w:=λc hn dl fr H h ds hd a w ha hw=>
  wp_mono (eF c hn _ fr H h a w ha hw) λe a' w' ⟨fr',H',bT,hw',_,hq⟩=>jf hd bT hw' hq
 intro c;induction c with
 |seq x y _ ih=>
  intro hn dl fr H h ds hd a w ha hw;unfold sJ at h;split at h
  ·rename_i ops o hx;obtain⟨id,d,rfl,hl,hop⟩:=mR hx;cases hc:(o.dst.isNone&&o.guard.isNone)<;>simp only[hc,xal,xah]at h;simp only[xam,Option.isNone_iff_eq_none]at hc;refine wp_seq (wp_region_list ?_);rw[hl];refine bc _ _ _ _ _ fr H _ _ h trivial (dG.nil fr) a w ha hw [o] _ ?_ ?_
   ·intro a' w' iE fr' H' bT hw' _ _ hk;refine wpList_plain hc.2 λK hK=>?_;obtain⟨x,dd,hx,hok,hrun⟩:=rW hk;show o.upon P a' K _ ((execOp a'.eval o).run P w');rw[bT.eval,hrun];refine hK _ _ ?_;refine ih _ _ fr' H' hx (dd::ds) (.cons hok hd) _ _ ?_ hw';rw[hc.1];exact⟨xb1 _ bT.defers,bT.size,bT.get⟩
   intro ch a' w' fr' H' _ _ hk;exact hk.elim
  split at h
  ·refine wp_seq (wp_mono (eF x _ _ fr H h a w ha hw) ?_);rintro e a' w' ⟨fr',H',bT,hw',ho,hq⟩;cases e with
   |normal=>exact ih _ _ fr' H' hq ds hd a' w' bT hw'
   |ret=>exact jf (e:=.ret) hd bT hw' hq
   |exit id=>exact hq.elim
   |goto l=>exact hq.elim
   |panic ch=>exact hq.elim
   |outgrown=>exact hq.elim
  ·cases hno:CP x hn.I<;>simp only[hno,xal,xah]at h;have h':=h (λvs H'=>∀gs,sJ P g n (Bh P g fn R) y hn.b dl (mix hn.L vs hn.I fr gs) H') (nH.intro (λvs H' hh=>hh) _);refine wp_seq (wp_mono (eF x _ _ fr H h' a w ha hw) ?_);rintro e a' w' ⟨fr',H',bT,hw',ho,hq⟩;cases e with
   |normal=>
    obtain⟨Hj,hent,hq⟩:=hq;have I0:=hq fr';rw[mK λs hs=>ho rfl s (mH hno s hs)]at I0;exact ih _ _ fr' Hj I0 ds hd a' w' bT (hent _ _ hw')
   |ret=>exact jf (e:=.ret) hd bT hw' hq
   |exit id=>exact hq.elim
   |goto l=>exact hq.elim
   |panic ch=>exact hq.elim
   |outgrown=>exact hq.elim
 |_=>intro hn dl fr H h;exact plain _ hn dl fr H h
theorem pH{args:List zV}{m:Nat}(hle:args.length<=m):aY [] m {tmps:=args.toArray++Array.replicate (m-args.toArray.size) undef,defers:=[]} (eP args 0):=by
 refine⟨rfl,by simp;omega,λs=>?_⟩;rw[jb,xaj,Array.getElem?_append];simp only[xce,xcv,xaG,xc3];by_cases hs:s<args.length
 ·simp[hs,List.getD]
 rw[xab hs,xcA];have:args.getD s undef=undef:=by simp[List.getD,xaM (xcP hs)]
 rw[this];split<;>rfl
theorem rC{f:FuncId}{fn:Func}{hn:Hn}{args:List zV}{H:Hp}{R:Ending->Hp->Prop}(hf:P.funcs[f]? =some fn)(h:Bq P g fn hn args H R):aT P g f args.toArray H R:=by
 intro w hw;unfold Bq at h;split at h<;>try exact h.elim
 rename_i c hc;cases hl:Nat.ble args.length fn.ntmps<;>simp only[hl,xal,xah]at h;exact calls_of_wp_defers hf hc (sI c hn [] _ H h [] .nil _ w (pH (xbn hl)) hw)
theorem rA{f:FuncId}{fn:Func}{hn:Hn}{args:List zV}{H:Hp}{R:Ending->Hp->Prop}(hf:P.funcs[f]? =some fn)(h:sL P g fn hn args H R):ik P g f args.toArray H R:=by
 intro w hw u;unfold sL at h;split at h<;>try exact h.elim
 rename_i c hc;cases hl:Nat.ble args.length fn.ntmps<;>simp only[hl,xal,xah]at h;refine callsD_of_wp hf hc (wp_mono (eF c hn _ _ H h _ w (pH (xbn hl)) hw) ?_);rintro e a' w' ⟨fr',H',bT,hw',_,hq⟩;cases e with
 |normal=>obtain⟨vs,hr,hk⟩:=df bT hw' hq;exact⟨bT.defers,_,hr,H',hw',hk⟩
 |ret=>obtain⟨vs,hr,hk⟩:=df bT hw' hq;exact⟨bT.defers,_,hr,H',hw',hk⟩
 |panic ch=>exact⟨bT.defers,H',hw',hq⟩
 |exit id=>exact hq.elim
 |goto l=>exact hq.elim
 |outgrown=>exact hq.elim
abbrev Jt:=List zV->Hp->Prop
abbrev Mt:=List zV->Hp->Nat
abbrev Rt:=Ending->Hp->Prop
abbrev Hn.n(a b:Hn):Hn:=.h 0 [] [] a b
theorem EG{f:FuncId}{fn:Func}{hn:Hn}{args:List zV}{H:Hp}{R:Rt}{L:Prop}(hf:P.funcs[f]? =some fn)(h:L)(e:sL P g fn hn args H R=L):aT P g f args.toArray H R:=sK hf (e.mpr h)
theorem zc{f:FuncId}{fn:Func}{hn:Hn}{args:List zV}{H:Hp}{R:Rt}{L:Prop}(hf:P.funcs[f]? =some fn)(h:L)(e:Bq P g fn hn args H R=L):aT P g f args.toArray H R:=rC hf (e.mpr h)
theorem ze{f:FuncId}{fn:Func}{hn:Hn}{args:List zV}{H:Hp}{R:Rt}{L:Prop}(hf:P.funcs[f]? =some fn)(h:L)(e:sL P g fn hn args H R=L):ik P g f args.toArray H R:=rA hf (e.mpr h)
end
end Go.Sx
namespace Go.Sx
open Go
section
variable {P:Program} {g:Gh} {H:Hp}
def ML(P:Program)(f:FuncId)(args:Array zV)(C:Hp)(Q:zV->Hp->Prop):Prop:=∀g,ik P g f args C (aZ Q)
theorem gC.fn{f:FuncId}{args:Array zV}{C H:Hp}{c:Hp->Hp}{Q:zV->Hp->Prop}{K:Hp->Prop}(hh:bf C H c)(hc:ML P f args C Q)(hk:∀v C',Q v C'->K (c C')):gC P g f args H K:=by
 intro w hw u;obtain⟨rfl,F,hp⟩:=hh.spec;have hw':Own g (C++F) w:=aM.perm (hp C) g w hw;refine((hc (g.add F)) w (Own.cL.1 hw') u).mono ?_;rintro e u' w' ⟨rfl,H',ho,v,C',rfl,he,hq⟩;have h1:Own g (H'++F) w':=Own.cL.2 ho;have h2:Own g (c H') w':=aM.perm (hp H').symm g w' h1;exact⟨rfl,c C',hh.dF he g w' h2,⟨v,rfl⟩,hk _ _ hq⟩
end
end Go.Sx
namespace Go.Sx
open Go
section
variable {P:Program} {g:Gh}
def jk(P:Program)(f:FuncId)(g:Gh)(args:Array zV)(u:FrameMode)(H:Hp)(K:Hp->Prop):Prop:=
 ∀w,Own g H w->CallsD P f args u w λe u' w'=>(∃v,e=.returned v)/\settle u'=.returning/\∃H',Own g H' w'/\K H'
def wj(P:Program)(g:Gh)(K:Hp->Prop):List nG->Hp->Prop
 | [],H=>K H
 |x::r,H=>jk P x.f g x.l.toArray .returning H (wj P g K r)
def xq(P:Program)(g:Gh)(fn:Func)(R:Ending->Hp->Prop)(dl:List nG):Exit->Fr->Hp->Prop
 | .normal,fr,H=>wj P g (λH'=>iU P fr H' fn.results.toList λvs=>R (.returned (mv vs)) H') dl H
 | .ret,fr,H=>wj P g (λH'=>iU P fr H' fn.results.toList λvs=>R (.returned (mv vs)) H') dl H
 | .panic ch,fr,H=>match dl with
  | []=>R (.panicked ch) H
  |x::r=>jk P x.f g x.l.toArray (.panicking ch) H (wj P g (λH'=>iU P fr H' fn.results.toList λvs=>R (.returned (mv vs)) H') r)
 |_,_,_=>False
def pW(P:Program)(g:Gh)(n:Nat)(E:List nG->Exit->Fr->Hp->Prop):Code->(List nG->Fr->Hp->Prop)->List nG->Fr->Hp->Prop
 | .skip,k,dl,fr,H=>k dl fr H
 | .ret,_,dl,fr,H=>E dl .ret fr H
 | .seq x y,k,dl,fr,H=>pW P g n E x (pW P g n E y k) dl fr H
 | .cond c x y,k,dl,fr,H=>Br (ev fr c) (pW P g n E x k dl fr H) (pW P g n E y k dl fr H)
 | .region id ops draw,k,dl,fr,H=>
  cond draw False
  (match vb (.region id ops false)with
  |some (_,o)=>cond (o.dst.isNone&&o.guard.isNone)
    (ct P g n ops false (ops.toList.length+1) false none [] ops.toList.dropLast fr H (λ_ fr' H'=>DO P o (ev fr') λd=>k (d::dl) fr' H') (λ_ _=>False)) False
  |none=>ct P g n ops false (ops.toList.length+1) false none [] ops.toList fr H (λ_ fr' H'=>k dl fr' H') (λch H'=>∀gs,E dl (.panic ch) (kB ops.toList gs fr) H'))
 |_,_,_,_,_=>False
def Bp(P:Program)(g:Gh)(fn:Func)(args:List zV)(H:Hp)(R:Ending->Hp->Prop):Prop:=
 match fn.body with
 |some c=>cond (Nat.ble args.length fn.ntmps) (pW P g fn.ntmps (xq P g fn R) c (λdl fr H'=>xq P g fn R dl .normal fr H') [] (eP args 0) H) False
 |none=>False
def gl(l:List Oper)(a a':Act):Prop:=∀s,aB l s=false->a'.tmps.getD s undef=a.tmps.getD s undef
theorem gl.put{L:List Oper}{a0 a:Act}(h:gl L a0 a){o:Oper}(ho:∀s,aB L s=false->aB [({(default:Oper)with dst:=o.dst})] s=false)(v:zV):gl L a0 (a.put o.dst v):=by
 intro s hs;rw[<-h s hs];have:=ho s hs;cases hd:o.dst with
 |none=>rfl
 |some d=>
  rw[hd]at this;simp only[aB,Bool.or_false]at this;have hne:d≠s:=λe=>by subst e;simp at this
  simp only[Act.put,xaj,xaY hne]
theorem LetsOut.and{Q Q':Exit->Act->World->Prop}(hq:∀a w,Q .outgrown a w->Q' .outgrown a w)(h:LetsOut Q):LetsOut Q':=by
 obtain⟨a,w,h⟩:=h;exact⟨a,w,hq _ _ h⟩
theorem cy{ops:Array Oper}{Q:Exit->Act->World->Prop}{L:List Oper}{a0:Act}:∀(rest:List Oper),(∀s,aB L s=false->aB rest s=false)->∀(a:Act) (w:World),gl L a0 a->wpList P ops Q rest a w->
  wpList P ops (λe a' w'=>Q e a' w'/\(jE e=true->gl L a0 a')) rest a w
 | [],_,a,w,hs,h=>⟨h,λe=>by cases e⟩
 |o::r,hL,a,w,hs,h=>by
  have ho:∀s,aB L s=false->aB [({(default:Oper)with dst:=o.dst})] s=false:=λs h=>by
   have:=hL s h;rw[bI,xar]at this;exact this.1
  have hr:∀s,aB L s=false->aB r s=false:=λs h=>by
   have:=hL s h;rw[bI,xar]at this;exact this.2
  have hout:LetsOut Q->LetsOut (λe a' w'=>Q e a' w'/\(jE e=true->gl L a0 a')):=LetsOut.and λa w h=>⟨h,λe=>by cases e⟩;unfold wpList at h⊢;split at h<;>rename_i hw
  ·rw[xae hw];rcases h with h|⟨h1,h2⟩
   ·left;unfold Oper.wp at h⊢;generalize (execOp a.eval o).run P w=res at h⊢;cases res with
    |ok n w'=>
     cases n<;>simp only[Oper.upon]at h⊢ <;>first|exact h|skip
     case value v=>exact cy r hr _ _ (hs.put ho v) h
     case skip=>exact cy r hr _ _ (hs.put ho undef) h
     case defer d=>exact cy r hr _ _ (gl.put (a:={a with defers:=d::a.defers}) hs ho undef) h
     case enter f args=>
      refine h.mono λe w'' he=>?_;cases e with
      |returned v=>exact cy r hr _ _ (hs.put ho v) he
      |panicked ch=>exact⟨he,λ_=>hs⟩
      |outgrown=>exact hout he
     case row row args=>exact h.mono λv w'' he=>cy r hr _ _ (hs.put ho v) he
    |halt x w'=>
     cases x<;>simp only[Oper.upon]at h⊢ <;>first|exact⟨h,λ_=>hs⟩|exact h
   exact .inr ⟨h1,hout h2⟩
  rw[xab hw];exact cy r hr _ _ (hs.put ho undef) h
def Iz(P:Program)(g:Gh)(n:Nat)(fn:Func)(R:Ending->Hp->Prop)(k:List nG->Fr->Hp->Prop):Exit->Act->World->Prop
 | .normal,a,w=>∃dl ds fr H,kM P dl ds/\aY ds n a fr/\Own g H w/\k dl fr H
 |e,a,w=>∃dl ds fr H,kM P dl ds/\aY ds n a fr/\Own g H w/\xq P g fn R dl e fr H
theorem Du{l:List Oper}{fr fr':Fr}(h:∀s,aB l s=false->fr' s=fr s):kB l fr' fr=fr':=by
 funext s
 unfold kB;cases hb:aB l s
 ·exact(h s hb).symm
 rfl
theorem sH{n:Nat}{fn:Func}{R:Ending->Hp->Prop}:∀(c:Code) (k:List nG->Fr->Hp->Prop) (dl:List nG) (fr:Fr) (H:Hp),pW P g n (xq P g fn R) c k dl fr H->∀(ds:List Deferred),kM P dl ds->∀(a:Act) (w:World),aY ds n a fr->Own g H w->
  c.wp P (Iz P g n fn R k) a w:=by
 intro c;induction c with
 |skip=>intro k dl fr H h ds hd a w ha hw;exact wp_skip ⟨dl,ds,fr,H,hd,ha,hw,h⟩
 |ret=>intro k dl fr H h ds hd a w ha hw;exact wp_ret ⟨dl,ds,fr,H,hd,ha,hw,h⟩
 |seq x y D9 D8=>
  intro k dl fr H h ds hd a w ha hw;unfold pW at h;refine wp_seq (wp_mono (D9 _ dl fr H h ds hd a w ha hw) ?_);rintro e a' w' hq;cases e with
  |normal=>
   obtain⟨ON,ds',fr',H',jY,bT,hw',hq⟩:=hq;exact D8 _ ON fr' H' hq ds' jY a' w' bT hw'
  |exit id=>exact hq
  |goto l=>exact hq
  |ret=>exact hq
  |panic ch=>exact hq
  |outgrown=>exact hq
 |cond c x y D9 D8=>
  intro k dl fr H h ds hd a w ha hw;unfold pW at h;obtain⟨b,hb,ht,hf⟩:=h;exact wp_cond_split (t:=b) (by rw[ha.eval];exact hb) (λe=>D9 _ dl fr H (ht e) ds hd a w ha hw) (λe=>D8 _ dl fr H (hf e) ds hd a w ha hw)
 |region id ops draw=>
  intro k dl fr H h ds hd a w ha hw;unfold pW at h;cases draw<;>simp only[xal,xah]at h;split at h
  ·rename_i ops' o hx;obtain⟨id',d,e1,hl,hop⟩:=mR hx;simp only[Code.region.injEq]at e1;obtain⟨rfl,rfl,_⟩:=e1;cases hc:(o.dst.isNone&&o.guard.isNone)<;>simp only[hc,xal,xah]at h;simp only[xam,Option.isNone_iff_eq_none]at hc;refine wp_region_list ?_;rw[hl];refine bc _ _ _ _ _ fr H _ _ h trivial (dG.nil fr) a w ha hw [o] _ ?_ ?_
   ·intro a' w' iE fr' H' bT hw' _ _ hk;refine wpList_plain hc.2 λK hK=>?_;obtain⟨x,dd,hx,hok,hrun⟩:=rW hk;show o.upon P a' K _ ((execOp a'.eval o).run P w');rw[bT.eval,hrun];refine hK _ _ ?_;refine⟨x::dl,dd::ds,fr',H',.cons hok hd,?_,hw',hx⟩;rw[hc.1];exact⟨xb1 _ bT.defers,bT.size,bT.get⟩
   intro ch a' w' fr' H' _ _ hk;exact hk.elim
  have h1:=bc (rest:=[]) _ _ _ _ _ fr H _ _ h trivial (dG.nil fr) a w ha hw (λe a' w'=>match e with
   | .normal=>∃fr' H',aY ds n a' fr'/\Own g H' w'/\k dl fr' H'
   | .panic ch=>∃fr' H',aY ds n a' fr'/\Own g H' w'/\∀gs,xq P g fn R dl (.panic ch) (kB ops.toList gs fr) H'
   |_=>False) (λa' w' iE fr' H' bT hw' _ _ hk=>⟨fr',H',bT,hw',hk⟩) (λch a' w' fr' H' bT hw' hk=>⟨fr',H',bT,hw',hk⟩)
  rw[xaR]at h1;refine wp_mono (wp_region_list (cy (L:=ops.toList) (a0:=a) ops.toList (λs h=>h) a w (λs _=>rfl) h1)) ?_;rintro e a' w' ⟨hq,hs⟩;cases e with
  |normal=>
   obtain⟨fr',H',bT,hw',hk⟩:=hq;exact⟨dl,ds,fr',H',hd,bT,hw',hk⟩
  |panic ch=>
   obtain⟨fr',H',bT,hw',hk⟩:=hq;refine⟨dl,ds,fr',H',hd,bT,hw',?_⟩;have:=hk fr';rwa [Du λs h=>by rw[<-bT.get,<-ha.get];exact hs rfl s h]at this
  |exit id=>exact hq.elim
  |goto l=>exact hq.elim
  |ret=>exact hq.elim
  |outgrown=>exact hq.elim
 |_=>intro k dl fr H h;exact h.elim
theorem jk.cons{x:nG}{d:Deferred}{ds:List Deferred}{fn:Func}{tmps:Array zV}{u:FrameMode}{H:Hp}{w:World}{K:Hp->Prop}{R:Ending->World->Prop}(hu:u≠.run)(hd:LI P x d)(hw:Own g H w)(h:jk P x.f g x.l.toArray u H K)
 (hk:∀H' w',Own g H' w'->K H'->Leaves P fn tmps R ds .returning w'):Leaves P fn tmps R (d::ds) u w:=by
 obtain⟨cap,args,rfl,ha,hc⟩:=hd;refine leaves_cons hu ?_ ((h w hw).mono ?_)
 ·show(callFunc _ (args++cap)).run P w=_;rw[ha];exact cO hc _ w
 rintro e u' w' ⟨⟨v,rfl⟩,p9,H',ho,hk'⟩;show Leaves _ _ _ _ _ (settle u') w';rw[p9];exact hk _ _ ho hk'
theorem kP{fn:Func}{tmps:Array zV}{K:Hp->Prop}{R:Ending->World->Prop}(hK:∀H w,Own g H w->K H->∃v,(results fn tmps).run P w=.ok v w/\R (.returned v) w):
  ∀{dl:List nG} {ds:List Deferred},kM P dl ds->∀H w,Own g H w->wj P g K dl H->Leaves P fn tmps R ds .returning w
 |_,_,.nil,H,w,hw,h=>hK H w hw h
 |_,_,.cons hx hr,H,w,hw,h=>jk.cons zI hx hw h λH' w' ho hk=>kP hK hr H' w' ho hk
theorem je{fn:Func}{R:Ending->Hp->Prop}{n:Nat}{dl:List nG}{ds:List Deferred}(hd:kM P dl ds){e:Exit}{fr:Fr}{H:Hp}{a:Act}{w:World}(ha:aY ds n a fr)(hw:Own g H w)(h:xq P g fn R dl e fr H):
  bodyPostD P fn (λe w'=>∃H',Own g H' w'/\R e H') e a w:=by
 have fin:∀{dl ds H w},kM P dl ds->Own g H w->wj P g (λH'=>iU P fr H' fn.results.toList λvs=>R (.returned (mv vs)) H') dl H->Leaves P fn a.tmps (λe w'=>∃H',Own g H' w'/\R e H') ds .returning w:=λhd hw h=>by
  exact kP (λH w hw h=>by
   obtain⟨vs,hr,hk⟩:=df ha hw h;exact⟨_,hr,H,hw,hk⟩) hd _ _ hw h
 cases e with
 |normal=>show Leaves _ _ _ _ a.defers _ _;rw[ha.defers];exact fin hd hw h
 |ret=>show Leaves _ _ _ _ a.defers _ _;rw[ha.defers];exact fin hd hw h
 |panic ch=>
  show Leaves _ _ _ _ a.defers _ _;rw[ha.defers];cases hd with
  |nil=>exact⟨H,hw,h⟩
  |cons hx hr=>exact jk.cons zI hx hw h λH' w' ho hk=>fin hr ho hk
 |exit id=>exact h.elim
 |goto l=>exact h.elim
 |outgrown=>exact h.elim
theorem rB{f:FuncId}{fn:Func}{args:List zV}{H:Hp}{R:Ending->Hp->Prop}(hf:P.funcs[f]? =some fn)(h:Bp P g fn args H R):aT P g f args.toArray H R:=by
 intro w hw;unfold Bp at h;split at h<;>try exact h.elim
 rename_i c hc;cases hl:Nat.ble args.length fn.ntmps<;>simp only[hl,xal,xah]at h;refine calls_of_wp_defers hf hc (wp_mono (sH c _ [] _ H h [] .nil _ w (pH (xbn hl)) hw) ?_);intro e a' w' hq;cases e with
 |normal=>obtain⟨dl,ds,fr,H',hd,ha,ho,hk⟩:=hq;exact je (e:=.normal) hd ha ho hk
 |ret=>obtain⟨dl,ds,fr,H',hd,ha,ho,hk⟩:=hq;exact je (e:=.ret) hd ha ho hk
 |panic ch=>obtain⟨dl,ds,fr,H',hd,ha,ho,hk⟩:=hq;exact je (e:=.panic ch) hd ha ho hk
 |exit id=>obtain⟨dl,ds,fr,H',hd,ha,ho,hk⟩:=hq;exact hk.elim
 |goto l=>obtain⟨dl,ds,fr,H',hd,ha,ho,hk⟩:=hq;exact hk.elim
 |outgrown=>obtain⟨dl,ds,fr,H',hd,ha,ho,hk⟩:=hq;exact hk.elim
theorem EF{f:FuncId}{fn:Func}{args:List zV}{H:Hp}{R:Rt}{L:Prop}(hf:P.funcs[f]? =some fn)(h:L)(e:Bp P g fn args H R=L):aT P g f args.toArray H R:=rB hf (e.mpr h)
theorem jk.rec{f:FuncId}{fn:Func}{id d0 d1:Nat}{o0 o1:Oper}{rest:Code}{hn:Hn}{args:List zV}{u u':FrameMode}{v:zV}{H:Hp}{K:Hp->Prop}(hf:P.funcs[f]? =some fn)(hb:fn.body=some (.seq (.region id #[o0,o1] false) rest))
 (h0:o0.op=.call ⟨.builtin .recover,#[],#[]⟩)(g0:o0.guard=none)(e0:o0.dst=some d0)(h1:o1.op=.assign (.tmp d0))(g1:o1.guard=none)(e1:o1.dst=some d1)(hr:fn.results=#[])
 (hl:Nat.ble args.length fn.ntmps=true)(b0:Nat.blt d0 fn.ntmps=true)(b1:Nat.blt d1 fn.ntmps=true)
 (hu:(u=.returning/\v=.nilIface/\u'=.returning)\/(u=.panicking [{v,recovered:=false}]/\u'=.panicking [{v,recovered:=true}]))
 (h:den P g fn.ntmps rest hn (λe _ H'=>match e with| .normal=>K H'| .ret=>K H'|_=>False) (cz (cz (eP args 0) (some d0) v) (some d1) v) H):jk P f g args.toArray u H K:=by
 intro w hw;have hs:settle u'=.returning:=by
  rcases hu with⟨_,_,rfl⟩|⟨_,rfl⟩<;>rfl
 refine callsD_of_wpS (R:=λe u' w'=>(∃v,e=.returned v)/\settle u'=.returning/\∃H',Own g H' w'/\K H') hf hb λc₀ cs hc=>?_;refine wpS_seq (wpS_region ?_);have wU:(match recoverD (c₀::cs)with|some (v',cs')=>(v',cs')|none=>(.nilIface,c₀::cs))=(v,{c₀ with mode:=u'}::cs):=by
  rcases hu with⟨h1,rfl,rfl⟩|⟨h1,rfl⟩
  ·rw[h1]at hc;unfold recoverD;simp only[hc];rw[<-hc]
  rw[h1]at hc;unfold recoverD;simp only[hc]
 have hA:=pH (args:=args) (m:=fn.ntmps) (xbn hl);have Nt:∀t,Region.wanted o0 t=true:=λt=>by unfold Region.wanted;rw[g0]
 have qW:∀t,Region.wanted o1 t=true:=λt=>by unfold Region.wanted;rw[g1]
 have key:wpOpsS P #[o0,o1] (Exit.thenS (rest.wpS P (bodyPostS P fn c₀ cs λe u' w'=>(∃v,e=.returned v)/\settle u'=.returning/\∃H',Own g H' w'/\K H')) (bodyPostS P fn c₀ cs λe u' w'=>(∃v,e=.returned v)/\settle u'=.returning/\∃H',Own g H' w'/\K H')) [0,1]
   {tmps:=args.toArray++Array.replicate (fn.ntmps-args.toArray.size) undef,defers:=[]} (c₀::cs) w:=by
  generalize Lb:({tmps:=args.toArray++Array.replicate (fn.ntmps-args.toArray.size) undef,defers:=[]}:Act)=A0 at hA⊢;have a1:aY [] fn.ntmps (A0.put o0.dst v) (cz (eP args 0) (some d0) v):=by rw[e0];exact hA.put (d:=some d0) (by simpa[cQ]using b0) v
  have a2:aY [] fn.ntmps ((A0.put o0.dst v).put o1.dst v) (cz (cz (eP args 0) (some d0) v) (some d1) v):=by rw[e1];exact a1.put (d:=some d1) (by simpa[cQ]using b1) v
  have DY:wpOpsS P #[o0,o1] (Exit.thenS (rest.wpS P (bodyPostS P fn c₀ cs λe u' w'=>(∃v,e=.returned v)/\settle u'=.returning/\∃H',Own g H' w'/\K H')) (bodyPostS P fn c₀ cs λe u' w'=>(∃v,e=.returned v)/\settle u'=.returning/\∃H',Own g H' w'/\K H')) [1] (A0.put o0.dst v) ({c₀ with mode:=u'}::cs) w:=by
   simp only[wpOpsS,xcV,List.getElem?_cons_succ,xb5,qW,xaS];have hx:execOp (A0.put o0.dst v).eval o1=pure (.value v):=by
    rw[a1.eval];simp only[execOp,h1,ev];simp[cz]
   rw[hx];simp only[Sem.run_pure,Oper.upon];refine wpS_of_wp (wp_mono (eF rest hn _ _ H h _ w a2 hw) ?_);rintro e a' w' ⟨fr',H',bT,hw',_,hq⟩;cases e with
   |normal=>
    refine⟨bT.defers,u',rfl,.tuple #[],?_,⟨_,rfl⟩,hs,H',hw',hq⟩;simp[results,hr]
   |ret=>
    refine⟨bT.defers,u',rfl,.tuple #[],?_,⟨_,rfl⟩,hs,H',hw',hq⟩;simp[results,hr]
   |exit id=>exact hq.elim
   |goto l=>exact hq.elim
   |panic ch=>exact hq.elim
   |outgrown=>exact hq.elim
  unfold wpOpsS;simp only[xcV,xb5,Nt,xaS];have hx:execOp A0.eval o0=pure .recover:=by
   simp[execOp,h0,resolve,invoke,builtin]
  rw[hx];simp only[Sem.run_pure];cases hq:recoverD (c₀::cs)with
  |none=>
   rw[hq]at wU;simp only[xcM]at wU;obtain⟨rfl,hcs⟩:=wU;simp only;rw[hcs];exact DY
  |some p=>
   obtain⟨v',cs'⟩:=p;rw[hq]at wU;simp only[xcM]at wU;obtain⟨rfl,rfl⟩:=wU;exact DY
 exact key
end
end Go.Sx
set_option maxRecDepth 100000
namespace Go.Proofs
open Go Go.Sx Tryz
variable {g:Gh} {a0 a1 a2 a3 a4 a5 a6 a7 a8 a9 GC GB Jx Jw Jv Ju:zV} {H:Hp} {R:Rt}
abbrev pt(b:Nat):zV:=.pointer (some ⟨b,0,none⟩)
noncomputable abbrev zQ:=Tryz.prog
abbrev CF:=aa Tryz.prog
abbrev iv(n:Int):zV:=.int .i64 n
abbrev ui(n:Int):zV:=.int .u32 n
abbrev wi(n:Int):zV:=.int .u64 n
abbrev bi(n:Int):zV:=.int .u8 n
abbrev vT:zV:=.bool true
abbrev vF:zV:=.bool false
abbrev lE:=ae .num .eql
abbrev lN:=ae .num .neq
abbrev lL:=ae .num .lss
abbrev lG:=ae .num .gtr
abbrev lA:=ae .num .add
abbrev lS:=ae .num .sub
abbrev lD(n:Nat)(p:zV)(H:Hp)(k:zV->Prop):Prop:=ag n p λv=>Ld H v k
abbrev lM(n:Nat)(p:zV)(H:Hp)(k:zV->Prop):Prop:=Nil p λq=>ag n q λv=>Ld H v k
abbrev lI(e:Nat)(p i:zV)(H:Hp)(k:zV->Prop):Prop:=ai e p i λv=>Ld H v k
abbrev lX(v:zV)(k:zV->zV->Prop):Prop:=Ext 0 v λx=>Ext 1 v λy=>k x y
abbrev rt(R:Rt)(v:zV)(H:Hp):Prop:=R (.returned v) H
abbrev tP(a b:zV):zV:=.tuple #[a,b]
abbrev lW(H:Hp)(c:Array zV)(t:Nat)(k:Nat->Hp->Prop):Prop:=sY H (.cells c t zZ) k
abbrev lO(a:zV)(i:Bool->Prop)(k:Bool->Prop):Prop:=bL a false i (λt=>vT=Value.bool t) λt=>∀_:Fr,k t
abbrev lU(a:zV)(i:Bool->Prop)(k:Bool->Prop):Prop:=bL a true i (λt=>vF=Value.bool t) λt=>∀_:Fr,k t
abbrev lV(H:Hp)(v:zV)(t:Bool):Prop:=H=H/\v=Value.bool t
abbrev lC(n:Nat)(p:zV)(k:zV->Prop):Prop:=Nil p λq=>ag n q k
abbrev lQ(n:Nat)(H:Hp)(c:Array zV)(t:Nat)(v:zV)(k:Nat->Hp->Prop):Prop:=sY H (.cells c t zZ) λb H=>St n H (pt b) v λH=>k b H
abbrev sc:=aT Tryz.prog
theorem sd{g:Gh}{f:FuncId}{fn:Func}(hn:Hn){args:List zV}{H:Hp}{R:Rt}{L:Prop}(hf:Tryz.prog.funcs[f]? =some fn)(h:L)(e:sL Tryz.prog g fn hn args H R=L:=by kernel_rfl):sc g f args.toArray H R:=EG hf h e
abbrev Y0:=Gh->Hp->Rt->Prop
abbrev Y1:=Gh->zV->Hp->Rt->Prop
abbrev Y2:=Gh->zV->zV->Hp->Rt->Prop
abbrev Y3:=Gh->zV->zV->zV->Hp->Rt->Prop
abbrev Y4:=Gh->zV->zV->zV->zV->Hp->Rt->Prop
abbrev Y5:=Gh->zV->zV->zV->zV->zV->Hp->Rt->Prop
abbrev CR(R:Rt)(g:Gh)(f:Nat)(a:Array zV)(H:Hp)(K:zV->Hp->Prop):Prop:=aa Tryz.prog g f a H K (dj R)
abbrev CN(g:Gh)(f:Nat)(a:Array zV)(H:Hp)(K:zV->Hp->Prop):Prop:=aa Tryz.prog g f a H K xL
abbrev lK(H:Hp)(v:zV)(t:Nat)(k:Nat->Hp->Prop):Prop:=sY H (.cells (Value.cells v) t zZ) k
abbrev i0:zV:=iv 0
abbrev i1:zV:=iv 1
abbrev oG:=ae .num .geq
abbrev oA:=ae .num .and
abbrev oR:=ae .num .shr
abbrev oL:=ae .num .shl
abbrev oO:=ae .num .or
abbrev oQ:=ae .num .leq
abbrev oM:=ae .num .mul
abbrev oP(a:zV)(k:zV->Prop):Prop:=ae .ptr .eql a (.pointer none) k
abbrev jA(A:Hp->Prop)(B:Jt->Prop):Prop:=∀J:Jt,(∀H,(∀_:Fr,A H)->J [] H)->B J
abbrev jB(A:zV->Hp->Prop)(B:Jt->Prop):Prop:=∀J:Jt,(∀w H,(∀_:Fr,A w H)->J [w] H)->B J
abbrev jC(A:zV->zV->Hp->Prop)(B:Jt->Prop):Prop:=∀J:Jt,(∀w x H,(∀_:Fr,A w x H)->J [w,x] H)->B J
abbrev yA(l:List zV)(H:Hp)(K:Jt->Mt->zV->Hp->Prop):Prop:=∃(I:Jt) (m:Mt),JE I l H/\∀w H,I [w] H->∀_:Fr,K I m w H
abbrev yB(l:List zV)(H:Hp)(K:Jt->Mt->zV->zV->Hp->Prop):Prop:=∃(I:Jt) (m:Mt),JE I l H/\∀w x H,I [w,x] H->∀_:Fr,K I m w x H
abbrev nC:Array zV:=#[i0,ui 0,ui 0]
abbrev sZ:zV:=.slice none 0 0
abbrev qA(L:Y0)(f:Nat):Prop:=∀{g H R},L g H R->sc g f #[] H R
abbrev qB(L:Y1)(f:Nat):Prop:=∀{g a H R},L g a H R->sc g f #[a] H R
abbrev qC(L:Y2)(f:Nat):Prop:=∀{g a b H R},L g a b H R->sc g f #[a,b] H R
abbrev qD(L:Y3)(f:Nat):Prop:=∀{g a b c H R},L g a b c H R->sc g f #[a,b,c] H R
abbrev qE(L:Y4)(f:Nat):Prop:=∀{g a b c d H R},L g a b c d H R->sc g f #[a,b,c,d] H R
abbrev qF(L:Y5)(f:Nat):Prop:=∀{g a b c d e H R},L g a b c d e H R->sc g f #[a,b,c,d,e] H R
def hr(m:Nat)(T:zL):Nat->Nat->Hn->Hn
 |_,0,x=>x
 |i,k+1,x=>.h m [i] T (hr m T (i+1) k x) .e
def hN:Nat->Hn->Hn
 |0,x=>x
 |k+1,x=>.n .e (hN k x)
def zA(x:Hn):Hn:=.n .e x
def zB(x:Hn):Hn:=.n x .e
def zE(m:Nat)(A T:zL)(x:Hn):Hn:=.h m A T x .e
def zF(m:Nat)(A T:zL):Hn:=.h m A T .e .e
def yR:Nat->zL:=List.range
def L3:Y2:=λa b c d e=>CR e a 6 #[] d λd f=>Un .not d λd=>Br d (rt e vF f) (CR e a 7 #[] f λd f=>CR e a 8 #[d,(.string (ByteArray.mk #[110,101,119,32,56,32,49,48,48,48,48,48]))] f λ_ f=>jB (λg h=>Br g (rt e vT h) (ak Tryz.prog 30 3 [(0,(.string (ByteArray.mk #[97,110,100]))),(1,(.string (ByteArray.mk #[111,114]))),(2,(.string (ByteArray.mk #[120,111,114])))] h λg h=>ak Tryz.prog 30 3 [(0,(.string (ByteArray.mk #[38]))),(1,(.string (ByteArray.mk #[124]))),(2,(.string (ByteArray.mk #[94])))] h λh i=>yA [i0] i λi j k l=>bY g λm=>lL k m λm=>Br m (jA (λm=>lA k i1 λn=>aR i j [n] m [k] l) λi=>lI 1 g k l λg=>ae .str .add g (.string (ByteArray.mk #[32,99,32,97,32,98])) λg=>CR e a 8 #[d,g] l λg j=>lQ 3 j #[(.string (ByteArray.mk #[])),i0,i0] 27 g λg j=>ae .str .add (.string (ByteArray.mk #[100,32,61,32,40])) b λm=>ae .str .add m (.string (ByteArray.mk #[41])) λm=>lI 1 h k j λh=>ae .str .add m h λh=>ae .str .add h (.string (ByteArray.mk #[40])) λh=>ae .str .add h c λh=>ae .str .add h (.string (ByteArray.mk #[41])) λh=>CR e a 8 #[d,h] j λh j=>lQ 3 j #[(.string (ByteArray.mk #[])),i0,i0] 27 h λh j=>CR e a 8 #[d,(.string (ByteArray.mk #[115,97,109,101,32,99,32,100]))] j λj k=>lQ 3 k #[(.string (ByteArray.mk #[])),i0,i0] 27 j λj k=>lD 2 (pt h) k λm=>lE m (iv 13) λm=>lO m (λm=>lD 2 (pt h) k λn=>lE n (iv 7) λn=>(lV k n m)) λm=>Br (Value.bool m) (JE i [] k) (lD 2 (pt g) k λm=>lN m i0 λm=>lO m (λm=>lD 2 (pt h) k λn=>lN n i0 λn=>(lV k n m)) λm=>lO (Value.bool m) (λm=>lD 0 (pt g) k λg=>lD 0 (pt h) k λh=>ae .str .neq g h λg=>(lV k g m)) λm=>lO (Value.bool m) (λg=>lD 0 (pt j) k λh=>ae .str .neq h (.string (ByteArray.mk #[49])) λh=>(lV k h g)) λg=>Br (Value.bool g) (rt e vF k) (JE i [] k))) (CR e a 8 #[d,(.string (ByteArray.mk #[110,111,116,32,99,32,97]))] l λg h=>lQ 3 h #[(.string (ByteArray.mk #[])),i0,i0] 27 g λg h=>ae .str .add (.string (ByteArray.mk #[100,32,61,32,33,40])) b λi=>ae .str .add i (.string (ByteArray.mk #[41])) λi=>CR e a 8 #[d,i] h λh i=>lQ 3 i #[(.string (ByteArray.mk #[])),i0,i0] 27 h λh i=>CR e a 8 #[d,(.string (ByteArray.mk #[115,97,109,101,32,99,32,100]))] i λi j=>lQ 3 j #[(.string (ByteArray.mk #[])),i0,i0] 27 i λi j=>CR e a 8 #[d,(.string (ByteArray.mk #[115,97,109,101,32,99,32,97]))] j λj k=>lQ 3 k #[(.string (ByteArray.mk #[])),i0,i0] 27 j λj k=>lD 2 (pt h) k λl=>lE l (iv 13) λl=>lO l (λl=>lD 2 (pt h) k λm=>lE m (iv 7) λm=>(lV k m l)) λl=>Br (Value.bool l) (lD 2 (pt g) k λl=>lE l i0 λl=>rt e l k) (lD 2 (pt g) k λl=>lE l i0 λl=>lU l (λl=>lD 2 (pt h) k λm=>lE m i0 λm=>(lV k m l)) λl=>lU (Value.bool l) (λl=>lD 0 (pt g) k λg=>lD 0 (pt h) k λh=>ae .str .eql g h λg=>(lV k g l)) λl=>lU (Value.bool l) (λg=>lD 0 (pt i) k λh=>ae .str .eql h (.string (ByteArray.mk #[49])) λh=>(lV k h g)) λg=>lU (Value.bool g) (λg=>lD 0 (pt j) k λh=>ae .str .eql h (.string (ByteArray.mk #[48])) λh=>(lV k h g)) λg=>rt e (Value.bool g) k)))) λg=>CR e a 9 #[b] f λf h=>Un .not f λf=>Split f false (CR e a 9 #[c] h λf i=>Un .not f λf=>bX vF vT f λf=>Split f false (ae .str .add (.string (ByteArray.mk #[97,32,61,32])) b λb=>CR e a 8 #[d,b] i λb f=>qf 2 b λb=>lN b i0 λb=>bX vF vT b λb=>Split b false (ae .str .add (.string (ByteArray.mk #[98,32,61,32])) c λb=>CR e a 8 #[d,b] f λa b=>qf 2 a λa=>lN a i0 λa=>bX vF vT a λa=>JE g [a] b) (bX vT vT undef λa=>JE g [a] f)) (bX vT vT undef λa=>bX a vT undef λa=>JE g [a] i)) (bX vT vT undef λa=>bX a vT undef λa=>bX a vT undef λa=>JE g [a] h))
theorem BX:qC L3 3:=λh=>sd (hN 4 (.n (zF 1 [44] [0,1,5]) (zA (zA (.n (zA (zB (zE 0 [8] [0,1,5,6,7] (zA (zE 1 [] [0,1,5,6,7,8] (zB (hN 3 (.n (zB (zF 0 [] [1])) (zB (zF 0 [] [1])))))))))) (hN 4 (.n (zB (zF 0 [] [1])) (zB (zF 0 [] [1]))))))))) func3 h
def L6:Y0:=λa b c=>CR c a 7 #[] b λb d=>oP b λe=>Br e (rt c vF d) (CR c a 8 #[b,(.string (ByteArray.mk #[102,32,61,32,120,48,32,38,32,120,49]))] d λd e=>lQ 3 e #[(.string (ByteArray.mk #[])),i0,i0] 27 d λd e=>CR c a 8 #[b,(.string (ByteArray.mk #[115,97,116,115,32,102]))] e λa b=>lQ 3 b #[(.string (ByteArray.mk #[])),i0,i0] 27 a λa b=>lD 0 (pt d) b λe=>ae .str .eql e (.string (ByteArray.mk #[50])) λe=>lU e (λe=>lD 2 (pt d) b λd=>lE d i0 λd=>(lV b d e)) λe=>lU (Value.bool e) (λd=>lD 0 (pt a) b λe=>ae .str .eql e (.string (ByteArray.mk #[54,52])) λe=>(lV b e d)) λd=>lU (Value.bool d) (λd=>lD 2 (pt a) b λa=>lE a i0 λa=>(lV b a d)) λd=>rt c (Value.bool d) b)
theorem BW:qA L6 6:=λh=>sd (hN 5 (zB (zF 0 [] [1]))) func6 h
def L7:Y0:=λ_ a b=>Build Tryz.prog 48 [] λc=>lK a c 48 λa c=>rt b (pt a) c
theorem BV:qA L7 7:=λh=>sd .e func7 h
def L8:Y2:=λa b c d e=>lW d #[(.string (ByteArray.mk #[])),i0,i0] 27 λd f=>oP b λg=>Br g (Build Tryz.prog 27 [] λg=>St 3 f (pt d) g λg=>az 3 g (pt d) λh=>rt e h g) (CR e a 15 #[b] f λ_ f=>aA c λg=>lG g (iv 400) λg=>Br g (CR e a 16 #[i0,(iv 13)] f λg h=>St 3 h (pt d) g λg=>az 3 g (pt d) λh=>rt e h g) (CR e a 17 #[c] f λf g=>bY f λh=>lE h i0 λh=>Br h (Build Tryz.prog 27 [] λh=>St 3 g (pt d) h λh=>az 3 h (pt d) λi=>rt e i h) (ai 3 f i0 λh=>ag 0 h λh=>Ld g h λh=>CR e a 18 #[b,h] g λg h=>lX g λg i=>lQ 3 h #[(.string (ByteArray.mk #[])),(.string (ByteArray.mk #[])),.nilFunc] 54 g λg h=>Br i (DR h λi=>lD 1 (pt g) i λj=>cF 3 f (some i1) none λk=>aA c λl=>∀m:Hp,
CN (a.add m) 19 #[b,j,k,l] h λj k=>aM k i/\
lX j λi j=>lW k #[(.string (ByteArray.mk #[])),i0,i0] 27 λk l=>∀_:Hp,
St 3 l (pt k) j λj=>lD 2 (pt k) j λl=>lN l i0 λl=>Br l (az 3 j (pt k) λk=>St 3 j (pt d) k λk=>az 3 k (pt d) λl=>rt e l k) (lD 2 (pt g) j λg=>bp Tryz.prog a g #[i] j (λg i=>St 3 i (pt d) g λg=>az 3 g (pt d) λi=>rt e i g) (dj e))) (ai 3 f i0 λg=>ag 0 g λg=>Ld h g λg=>CR e a 20 #[b,g] h λg h=>Un .not g λg=>lO g (λg=>bY f λi=>lL i (iv 2) λi=>(lV h i g)) λg=>lO (Value.bool g) (λg=>ai 3 f i1 λi=>ag 0 i λi=>Ld h i λi=>ae .str .neq i (.string (ByteArray.mk #[61])) λi=>(lV h i g)) λg=>Br (Value.bool g) (ai 3 f i0 λg=>ag 1 g λg=>Ld h g λg=>CR e a 16 #[g,(iv 15)] h λg i=>St 3 i (pt d) g λg=>az 3 g (pt d) λi=>rt e i g) (DR h λg=>ai 3 f i0 λi=>ag 0 i λi=>Ld g i λi=>ai 3 f i1 λf=>az 3 g f λf=>CN a 22 #[c,f] h λf h=>aM h g/\
CN a 21 #[b,i,c,f] h λa b=>aM b g/\
St 3 b (pt d) a λa=>az 3 a (pt d) λb=>rt e b a)))))
theorem nv:qC L8 8:=λh=>sd (hN 6 (.n (zA (zA (zB (zB (zE 1 [] [] (hr 0 [] 0 7 (zE 1 [11] [] (hr 0 [] 7 7 .e)))))))) (.n (zB (zF 0 [] [1])) (zB (zF 0 (yR 13) []))))) func8 h
def L9:Y1:=λ_ a b c=>aA a λd=>lG d i0 λd=>lU d (λd=>aA a λe=>oQ e (iv 300) λe=>(lV b e d)) λd=>lU (Value.bool d) (λd=>aV a i0 λa=>lN a (bi 32) λa=>(lV b a d)) λd=>rt c (Value.bool d) b
theorem BU:qB L9 9:=λh=>sd (zA (zB (zF 0 [] [1]))) func9 h
def L15:Y1:=λa b c d=>lM 0 b c λe=>oP e λe=>Br e (CR d a 27 #[(iv 8),(iv 1000)] c λa e=>lX a λa _=>lC 0 b λf=>St 1 e f a λa=>nu a λa e=>lC 1 b λb=>St 1 e b a λa=>rt d (.tuple #[]) a) (rt d (.tuple #[]) c)
theorem o9:qB L15 15:=λh=>sd .e func15 h
def L16:Y2:=λ_ a b c d=>lW c #[(.string (ByteArray.mk #[])),i0,i0] 27 λc e=>Build Tryz.prog 27 [(1,a),(2,b)] λa=>St 3 e (pt c) a λa=>az 3 a (pt c) λb=>rt d b a
theorem yJ:qC L16 16:=λh=>sd .e func16 h
def L17:Y1:=λa b c d=>∃(e:Jt) (f:Mt),JE e [sZ,(iv (-1)),i0] c/\∀c g h:zV,∀i:Hp,e [c,g,h] i->∀_:Fr,
aA b λj=>oQ h j λj=>Br j (jC (λj k l=>lA h i1 λm=>aR e f [j,k,m] l [c,g,h] i) λe=>aA b λf=>lE h f λf=>lO f (λf=>aV b h λj=>lE j (bi 32) λj=>(lV i j f)) λf=>lU (Value.bool f) (λj=>oG g i0 λk=>(lV i k j)) λj=>Br (Value.bool j) (br Tryz.prog a (e6 Tryz.f17 8 4) (ev (λa=>cond (Nat.beq a 30) b (cond (Nat.beq a 31) g (cond (Nat.beq a 32) h (undef))))) i λa=>Build Tryz.prog 58 [(0,a),(1,g),(2,h)] λa=>ak Tryz.prog 50 1 [(0,a)] i λa b=>App Tryz.prog 58 3 32 (.agg #[(.string (ByteArray.mk #[])),i0,i0]) b c a λa b=>JE e [a,(iv (-1))] b) (Un .not (Value.bool f) λa=>lU a (λa=>lL g i0 λb=>(lV i b a)) λa=>Br (Value.bool a) (JE e [c,h] i) (JE e [c,g] i))) (rt d c i)
theorem yI:qB L17 17:=λh=>sd (hN 3 (zB (zA (zB (zE 0 [3,4,5] [0] (zA (zE 1 [3,4] [0,5] (zB (.n (zF 0 [] [1]) (zB (.n (zF 0 [] [1]) (zA (zB (zF 0 [] [1])))))))))))))) func17 h
def L18:Y2:=λa b c d e=>lK d c 9 λc d=>lW d #[(.string (ByteArray.mk #[])),(.string (ByteArray.mk #[])),.nilFunc] 54 λd f=>CR e a 28 #[b] f λb f=>CR e a 29 #[b,(.func (.func 30) #[] #[(pt c)])] f λa c=>lL a i0 λf=>Br f (Build Tryz.prog 54 [] λf=>St 3 c (pt d) f λf=>az 3 f (pt d) λg=>rt e (tP g vF) f) (ai 3 b a λa=>az 3 c a λa=>St 3 c (pt d) a λa=>az 3 a (pt d) λb=>rt e (tP b vT) a)
theorem yH:qC L18 18:=λh=>sd .e func18 h
def L19:Y4:=λa b c d e f g=>lW f #[(.string (ByteArray.mk #[])),i0,i0] 27 λf h=>jB (λi j=>bY d λk=>yB [sZ,i0] j λj l m n o=>lL n k λk=>Br k (ai 3 d n λk=>az 3 o k λk=>lQ 3 o #[(.string (ByteArray.mk #[])),i0,i0] 58 k λk p=>aA i λq=>oG n q λq=>Br q (lD 1 (pt k) p λq=>CR g a 16 #[q,(iv 14)] p λq r=>St 3 r (pt f) q λq=>az 3 q (pt f) λr=>rt g (tP sZ r) q) (az 3 p (pt k) λq=>Build Tryz.prog 78 [(0,q)] λq=>lQ 4 p #[(.string (ByteArray.mk #[])),i0,i0,i0] 78 q λp q=>jB (λr s=>Un .not r λr=>Br r (lD 1 (pt k) s λr=>CR g a 16 #[r,(iv 14)] s λr t=>St 3 t (pt f) r λr=>az 3 r (pt f) λt=>rt g (tP sZ t) r) (az 4 s (pt p) λr=>ak Tryz.prog 59 1 [(0,r)] s λr s=>App Tryz.prog 78 4 40 (.agg #[(.string (ByteArray.mk #[])),i0,i0,i0]) s m r λr s=>lA n i1 λt=>aR j l [r,t] s [m,n] o)) λj=>aV i n λl=>lE l (bi 110) λl=>Br l (lD 0 (pt k) q λl=>CR g a 32 #[l] q λl n=>lX l λl r=>ag 3 (pt p) λp=>St 1 n p l λl=>JE j [r] l) (lD 0 (pt k) q λk=>CR g a 20 #[b,k] q λk l=>JE j [k] l))) (bY d λj=>aA i λk=>lL j k λj=>Br j (CR g a 16 #[e,(iv 14)] o λe j=>St 3 j (pt f) e λe=>az 3 e (pt f) λj=>rt g (tP sZ j) e) (bY m λe=>yA [i0] o λj k l n=>lL l e λe=>Br e (ai 4 m l λe=>az 4 n e λe=>lQ 4 n #[(.string (ByteArray.mk #[])),i0,i0,i0] 78 e λe o=>lM 1 b o λb=>ag 0 (pt e) λp=>ag 0 p λp=>Ld o p λp=>gp (.string) (ui 0) true o b p λb=>lX b λ_ b=>aV i l λi=>lE i (bi 115) λi=>lU i (λi=>Un .not b λb=>(lV o b i)) λi=>Br (Value.bool i) (ag 0 (pt e) λb=>ag 1 b λb=>Ld o b λb=>CR g a 16 #[b,(iv 15)] o λb e=>St 3 e (pt f) b λb=>az 3 b (pt f) λe=>rt g (tP sZ e) b) (lA l i1 λb=>aR j k [b] o [l] n)) (Build Tryz.prog 27 [] λb=>St 3 n (pt f) b λb=>az 3 b (pt f) λe=>rt g (tP m e) b)))) λb=>ae .str .eql c (.string (ByteArray.mk #[43])) λe=>Br e (bY d λd=>CR g a 31 #[(.string (ByteArray.mk #[110])),d] h λa d=>JE b [a] d) (JE b [c] h)
theorem yG:qE L19 19:=λh=>sd (zA (.h 1 [1] [0,2,3,9] .e (zA (.n (zA (zB (zE 0 [10,26] [0,1,2,3,9,24,25] (zA (zA (zB (zB (hN 3 (zF 1 [14] [0,1,2,3,9,10,12,13,24,25,26]))))))))) (zA (zB (zA (zB (zE 0 [74] [0,1,9,10,72,73] (zA (zA (zB (zB (zA (zA (zB (zF 0 [] [1]))))))))))))))))) func19 h
def L20:Y2:=λa b c d e=>CR e a 18 #[b,c] d λb d=>lX b λb f=>lQ 3 d #[(.string (ByteArray.mk #[])),(.string (ByteArray.mk #[])),.nilFunc] 54 b λ_ b=>CR e a 33 #[c] b λa b=>lU a (λa=>Un .not f λc=>(lV b c a)) λa=>rt e (Value.bool a) b
theorem yF:qC L20 20:=λh=>sd (zA (zA (zB (zF 0 [] [1])))) func20 h
def L21:Y4:=λa b c d e f g=>lW f #[(.string (ByteArray.mk #[])),i0,i0] 27 λf h=>DR h λi=>lM 0 b i λj=>br Tryz.prog a (e6 Tryz.f21 1 6) (ev (λk=>cond (Nat.beq k 17) d (cond (Nat.beq k 18) e (undef)))) i λd=>CN a 34 #[j,d] h λd h=>aM h i/\
lX d λi j=>Ext 2 d λd=>lE d (iv 14) λk=>lO k (λk=>lE d (iv 2) λl=>(lV h l k)) λk=>lO (Value.bool k) (λk=>lE d (iv 7) λl=>(lV h l k)) λk=>Br (Value.bool k) (lA e j λe=>CR g a 16 #[e,d] h λe j=>St 3 j (pt f) e λe=>az 3 e (pt f) λj=>rt g j e) (CR g a 35 #[b,c,i,d] h λa b=>St 3 b (pt f) a λa=>az 3 a (pt f) λb=>rt g b a)
theorem yE:qE L21 21:=λh=>sd (zA (.n (zF 0 (yR 15) []) (zB (zB (zF 0 [] [1]))))) func21 h
def L22:Y2:=λ_ a b c d=>lK c b 58 λb c=>lD 2 (pt b) c λb=>yA [b] c λb c e f=>aA a λg=>lL e g λg=>lU g (λg=>aV a e λa=>lE a (bi 32) λa=>(lV f a g)) λg=>Br (Value.bool g) (lA e i1 λa=>aR b c [a] f [e] f) (rt d e f)
theorem yD:qC L22 22:=λh=>sd (zA (zA (zB (zB (zE 0 [5] [0] (zB (zB (zF 0 [] [1])))))))) func22 h
def L23:Y2:=λa b c d e=>lW d #[(.pointer none)] 64 λd f=>lW f #[i0] 3 λf g=>lW g #[i0] 25 λg h=>aA b λi=>lG i (iv 65536) λi=>Br i (St 1 h (pt d) (.pointer none) λi=>St 1 i (pt f) i0 λi=>St 1 i (pt g) (iv 13) λi=>Ld i (pt d) λj=>Ld i (pt f) λk=>Ld i (pt g) λl=>rt e (.tuple #[j,k,l]) i) (CF a 37 #[b] h (λb h=>Build Tryz.prog 94 [(0,b),(1,c)] λb=>lK h b 94 λb c=>CF a 38 #[(pt b),i0,i0] c (λc h=>St 1 h (pt d) c λc=>CF a 39 #[(pt b),i0] c (λ_ b=>Ld b (pt d) λc=>St 1 b (pt d) c λb=>St 1 b (pt f) i0 λb=>St 1 b (pt g) i0 λb=>jk Tryz.prog 36 a #[(pt d),(pt f),(pt g)] .returning b λb=>Ld b (pt d) λc=>Ld b (pt f) λh=>Ld b (pt g) λi=>rt e (.tuple #[c,h,i]) b) (λb c=>∀_:Fr,jk Tryz.prog 36 a #[(pt d),(pt f),(pt g)] (.panicking b) c λb=>Ld b (pt d) λc=>Ld b (pt f) λh=>Ld b (pt g) λi=>rt e (.tuple #[c,h,i]) b)) (λb c=>∀_:Fr,jk Tryz.prog 36 a #[(pt d),(pt f),(pt g)] (.panicking b) c λb=>Ld b (pt d) λc=>Ld b (pt f) λh=>Ld b (pt g) λi=>rt e (.tuple #[c,h,i]) b)) (λb c=>∀_:Fr,jk Tryz.prog 36 a #[(pt d),(pt f),(pt g)] (.panicking b) c λa=>Ld a (pt d) λb=>Ld a (pt f) λc=>Ld a (pt g) λd=>rt e (.tuple #[b,c,d]) a))
theorem yC(h:L23 g a0 a1 H R):sc g 23 #[a0,a1] H R:=
 EF func23 h zK
def L27:Y2:=λa b c d e=>CR e a 46 #[b] d λd f=>lX d λd g=>lN g i0 λg=>lO g (λg=>lL b i1 λh=>(lV f h g)) λg=>lO (Value.bool g) (λg=>lL c (iv 2) λh=>(lV f h g)) λg=>lO (Value.bool g) (λg=>lG c (iv 1048576) λh=>(lV f h g)) λg=>Br (Value.bool g) (rt e (tP (.pointer none) i1) f) (CR e a 47 #[b] f λf g=>lX f λf h=>lN h i0 λi=>Br i (rt e (tP (.pointer none) h) g) (CR e a 48 #[c,f] g λc f=>lX c λc g=>lQ 4 f #[(.pointer none),(.pointer none),sZ,sZ] 119 c λc f=>lN g i0 λh=>Br h (rt e (tP (.pointer none) g) f) (DR f λg=>az 4 g (pt c) λc=>CN a 49 #[d] f λa f=>aM f g/\
Build Tryz.prog 124 [(0,c),(1,b),(2,d),(3,a)] λa=>lK f a 124 λa b=>aM b g/\
rt e (tP (pt a) i0) b)))
theorem o8:qC L27 27:=λh=>sd (zA (zA (.n (zB (zF 0 [] [1])) (hN 4 (zB (zF 0 (yR 9) [])))))) func27 h
def L28:Y1:=λ_ a b c=>Build Tryz.prog 54 [(0,(.string (ByteArray.mk #[110,101,119]))),(1,(.string (ByteArray.mk #[110,110]))),(2,(.func (.func 50) #[a] #[]))] λd=>Build Tryz.prog 54 [(0,(.string (ByteArray.mk #[97,110,100]))),(1,(.string (ByteArray.mk #[100,115,115]))),(2,(.func (.func 51) #[a] #[]))] λe=>Build Tryz.prog 54 [(0,(.string (ByteArray.mk #[111,114]))),(1,(.string (ByteArray.mk #[100,115,115]))),(2,(.func (.func 52) #[a] #[]))] λf=>Build Tryz.prog 54 [(0,(.string (ByteArray.mk #[120,111,114]))),(1,(.string (ByteArray.mk #[100,115,115]))),(2,(.func (.func 53) #[a] #[]))] λg=>Build Tryz.prog 54 [(0,(.string (ByteArray.mk #[110,111,116]))),(1,(.string (ByteArray.mk #[100,115]))),(2,(.func (.func 54) #[a] #[]))] λh=>Build Tryz.prog 54 [(0,(.string (ByteArray.mk #[100,114,111,112]))),(1,(.string (ByteArray.mk #[115]))),(2,(.func (.func 55) #[a] #[]))] λi=>Build Tryz.prog 54 [(0,(.string (ByteArray.mk #[115,104,111,119]))),(1,(.string (ByteArray.mk #[115]))),(2,(.func (.func 56) #[a] #[]))] λj=>Build Tryz.prog 54 [(0,(.string (ByteArray.mk #[101,118,97,108]))),(1,(.string (ByteArray.mk #[115,110]))),(2,(.func (.func 57) #[a] #[]))] λk=>Build Tryz.prog 54 [(0,(.string (ByteArray.mk #[115,97,116,115]))),(1,(.string (ByteArray.mk #[115]))),(2,(.func (.func 58) #[a] #[]))] λl=>Build Tryz.prog 54 [(0,(.string (ByteArray.mk #[108,101,97,115,116]))),(1,(.string (ByteArray.mk #[115]))),(2,(.func (.func 59) #[a] #[]))] λm=>Build Tryz.prog 54 [(0,(.string (ByteArray.mk #[115,97,109,101]))),(1,(.string (ByteArray.mk #[115,115]))),(2,(.func (.func 60) #[a] #[]))] λn=>Build Tryz.prog 54 [(0,(.string (ByteArray.mk #[108,105,118,101]))),(1,(.string (ByteArray.mk #[]))),(2,(.func (.func 61) #[a] #[]))] λo=>Build Tryz.prog 54 [(0,(.string (ByteArray.mk #[111,114,100,101,114]))),(1,(.string (ByteArray.mk #[43]))),(2,(.func (.func 62) #[a] #[]))] λp=>Build Tryz.prog 54 [(0,(.string (ByteArray.mk #[115,119,97,112]))),(1,(.string (ByteArray.mk #[110]))),(2,(.func (.func 63) #[a] #[]))] λq=>Build Tryz.prog 54 [(0,(.string (ByteArray.mk #[115,105,102,116]))),(1,(.string (ByteArray.mk #[110]))),(2,(.func (.func 64) #[a] #[]))] λr=>Build Tryz.prog 54 [(0,(.string (ByteArray.mk #[115,101,116,116,108,101]))),(1,(.string (ByteArray.mk #[110]))),(2,(.func (.func 65) #[a] #[]))] λs=>Build Tryz.prog 54 [(0,(.string (ByteArray.mk #[119,105,110,100,111,119]))),(1,(.string (ByteArray.mk #[110]))),(2,(.func (.func 66) #[a] #[]))] λt=>Build Tryz.prog 54 [(0,(.string (ByteArray.mk #[101,120,97,99,116]))),(1,(.string (ByteArray.mk #[]))),(2,(.func (.func 67) #[a] #[]))] λu=>Build Tryz.prog 54 [(0,(.string (ByteArray.mk #[110,97,109,101,115]))),(1,(.string (ByteArray.mk #[]))),(2,(.func (.func 68) #[a] #[]))] λa=>ak Tryz.prog 72 19 [(0,d),(1,e),(2,f),(3,g),(4,h),(5,i),(6,j),(7,k),(8,l),(9,m),(10,n),(11,o),(12,p),(13,q),(14,r),(15,s),(16,t),(17,u),(18,a)] b λa b=>rt c a b
theorem yz:qB L28 28:=λh=>sd .e func28 h
def L29:Y2:=λa b c d e=>bY b λf=>yA [i0] d λd g h i=>lL h f λf=>Br f (ai 3 b h λb=>az 3 i b λb=>bp Tryz.prog a c #[b] i (λa b=>Br a (rt e h b) (lA h i1 λa=>aR d g [a] b [h] i)) (dj e)) (e (.returned (iv (-1))) i)
theorem yy:qC L29 29:=λh=>sd (zA (zB (zA (zB (zF 0 [8] [0,1,7]))))) func29 h
def L30:Y2:=λ_ a b c d=>lK c a 54 λa c=>lD 0 (pt a) c λa=>Ld c b λb=>ae .str .eql a b λa=>rt d a c
theorem yx:qC L30 30:=λh=>sd .e func30 h
def L32:Y1:=λ_ a b c=>aA a λd=>lL d i1 λd=>lO d (λd=>aA a λe=>lG e (iv 18) λe=>(lV b e d)) λd=>Br (Value.bool d) (rt c (tP i0 vF) b) (aA a λd=>yB [i0,i0] b λb e f g h=>lL g d λd=>Br d (aV a g λd=>lL d (bi 48) λd=>lO d (λd=>aV a g λi=>lG i (bi 57) λi=>(lV h i d)) λd=>Br (Value.bool d) (rt c (tP i0 vF) h) (oM (iv 10) f λd=>aV a g λa=>lS a (bi 48) λa=>bj .i64 a λa=>lA d a λa=>lA g i1 λd=>aR b e [a,d] h [f,g] h)) (rt c (tP f vT) h))
theorem yw:qB L32 32:=λh=>sd (zA (.n (zB (zF 0 [] [1])) (zA (zB (zA (zB (zE 0 [4,16] [0,15] (zA (zA (zB (zB (zA (zB (zB (zF 0 [] [1]))))))))))))))) func32 h
def L33:Y1:=λ_ a b c=>aA a λd=>yA [i0] b λb e f g=>lL f d λd=>Br d (aV a f λd=>lL d (bi 97) λd=>lO d (λd=>aV a f λh=>lG h (bi 122) λh=>(lV g h d)) λd=>Br (Value.bool d) (rt c vF g) (lA f i1 λd=>aR b e [d] g [f] g)) (aA a λb=>oG b i1 λb=>lU b (λb=>aA a λa=>oQ a (iv 16) λa=>(lV g a b)) λb=>rt c (Value.bool b) g)
theorem yu:qB L33 33:=λh=>sd (zA (.n (zA (zB (zE 0 [6] [0,5] (zA (zA (zB (zB (zA (zB (zF 0 [] [1])))))))))) (zB (zF 0 [] [1])))) func33 h
def L34:Y2:=λa b c d e=>oP b λf=>Br f (rt e (.tuple #[(ui 0),i0,(iv 10)]) d) (CR e a 75 #[b] d λd f=>CR e a 23 #[c,d] f λc d=>lX c λf g=>Ext 2 c λc=>lN c i0 λh=>Br h (rt e (.tuple #[(ui 0),g,c]) d) (CR e a 76 #[b,f] d λa b=>lX a λa c=>rt e (.tuple #[a,i0,c]) b))
theorem yq:qC L34 34:=λh=>sd .e func34 h
variable {g:Gh} {a0 a1 a2 a3 a4 a5 a6 a7 a8 a9 GC GB Jx Jw Jv Ju:zV} {H:Hp} {R:Rt}
def L35:Y4:=λa b c d e f g=>lW f #[(.string (ByteArray.mk #[])),i0,i0] 27 λf h=>lN e i0 λi=>Br i (CR g a 16 #[i0,e] h λe i=>St 3 i (pt f) e λe=>az 3 e (pt f) λi=>rt g i e) (CR g a 77 #[b,c,d] h λa b=>St 3 b (pt f) a λa=>az 3 a (pt f) λb=>rt g b a)
theorem o7:qE L35 35:=λh=>sd .e func35 h
def L37:Y1:=λa b c d=>dX zQ a (e6 Tryz.f37 3 1) (ev (λe=>cond (Nat.beq e 13) b (undef))) c (λc f=>yB [sZ,i0] f λf g h i j=>dX zQ a (e6 Tryz.f37 4 0) (ev (λe=>cond (Nat.beq e 14) c (undef))) j (λc k=>Ext 0 c λl=>Br l (Ext 1 c λl=>Ext 2 c λc=>lL l i λm=>lO m (λm=>lE c (Value.int .i32 32) λn=>(lV k n m)) λm=>Br (Value.bool m) (aR f g [h,i] k [h,i] j) (Build zQ 141 [(0,(iv 16)),(1,l),(2,i0)] λm=>lQ 3 k #[i0,i0,i0] 141 m λm n=>jB (λo p=>CR d a 79 #[] p λp q=>bY p λr=>yB [o,i0] q λo q s t u=>lL t r λr=>Br r (jB (λr v=>lA t i1 λw=>aR o q [r,w] v [s,t] u) λo=>ai 2 p t λp=>az 2 u p λp=>lQ 2 u #[(.string (ByteArray.mk #[])),i0] 146 p λp q=>jB (λr t=>Br r (DR t λr=>lD 1 (pt p) r λv=>Build zQ 141 [(0,v),(1,l),(2,i0)] λv=>lD 0 (pt p) r λw=>aA w λw=>St 3 t (pt m) v λv=>aM v r/\
JE o [w] v) (JE o [s] t)) λo=>DR q λr=>lE s i0 λt=>Br t (br zQ a (e6 Tryz.f37 15 5) (ev (λe=>cond (Nat.beq e 54) b (cond (Nat.beq e 55) l (undef)))) r λt=>lD 0 (pt p) r λp=>∀r:Hp,
CN (a.add r) 70 #[t,p] q λp r=>bX vT p vF λp=>JE o [p] r) (JE o [vF] q)) (az 3 u (pt m) λo=>ak zQ 91 1 [(0,o)] u λo p=>App zQ 141 3 24 (.agg #[i0,i0,i0]) p h o λo p=>lD 0 (pt m) p λq=>lE q (iv 16) λq=>Br q (rt d o p) (lA l s λq=>aR f g [o,q] p [h,i] j))) λf=>lE c (Value.int .i32 120) λc=>Br c (lA l i1 λc=>br zQ a (e6 Tryz.f37 9 3) (ev (λe=>cond (Nat.beq e 31) b (cond (Nat.beq e 33) c (undef)))) n λc=>CR d a 78 #[c] n λa c=>lX a λa e=>lG e i0 λg=>Br g (Build zQ 141 [(0,(iv 3)),(1,l),(2,a)] λa=>lA i1 e λe=>St 3 c (pt m) a λa=>JE f [e] a) (JE f [i0] c)) (JE f [i0] n))) (aA b λa=>Build zQ 141 [(0,i0),(1,a),(2,i0)] λa=>ak zQ 91 1 [(0,a)] k λa b=>App zQ 141 3 24 (.agg #[i0,i0,i0]) b h a λa b=>rt d a b)) (dj d)) (dj d)
theorem yp:qB L37 37:=λh=>sd (hN 3 (zB (zA (zB (zE 0 [3,4] [0,14] (zA (zA (zB (zA (.n (zB (zF 0 [] [1])) (zA (.h 1 [8] [0,3,5,7,14] .e (zB (zA (zB (zE 0 [8,47] [0,3,5,7,14,45,46] (zA (zA (zE 1 [8] [0,3,5,7,14,45,46,47] (zB (zA (.h 1 [60] [0,3,5,7,8,12,14,45,46,47] (zE 1 [] [] (hr 0 [] 0 2 (.h 2 [2] [] (hr 0 [] 3 7 .e) (hr 0 [] 3 6 (zF 3 [9] []))))) (zB (zF 0 (yR 9) [])))))))))))))))))))))))) func37 h
def L38:Y3:=λa b c d e f=>lE c (iv 5) λg=>Br g (CR f a 80 #[b,d] e λg h=>rt f g h) (CR f a 81 #[c] e λe g=>lA c i1 λh=>CR f a 38 #[b,h,d] g λg h=>yA [g] h λg h i j=>CR f a 82 #[b] j λk l=>qf 0 k λk=>lE k e λk=>Br k (CR f a 83 #[b] l λ_ k=>lE e (iv 8) λm=>Br m (CR f a 38 #[b,c,d] k λm n=>ak zQ 99 2 [(0,i),(1,m)] n λm n=>Build zQ 101 [(0,(iv 8)),(2,m)] λm=>lK n m 101 λm n=>rt f (pt m) n) (lA c i1 λc=>CR f a 38 #[b,c,d] k λa b=>ak zQ 99 2 [(0,i),(1,a)] b λa b=>Build zQ 101 [(0,e),(2,a)] λa=>lK b a 101 λa b=>aR g h [(pt a)] b [i] j)) (rt f i l))
theorem yo:qD L38 38:=λh=>sd (hN 4 (zB (zB (zF 0 [8] [0,1,2,7])))) func38 h
def L39:Y2:=λa b c d e=>CR e a 83 #[b] d λb d=>lQ 3 d #[i0,i0,i0] 141 b λb d=>lD 0 (pt b) d λf=>lN f c λc=>Br c (az 3 d (pt b) λb=>CR e a 84 #[b,(iv 14)] d λ_ a=>rt e (.tuple #[]) a) (rt e (.tuple #[]) d)
theorem yn:qC L39 39:=λh=>sd .e func39 h
def L46:Y1:=λa b c d=>lL b i0 λe=>lO e (λe=>lG b (iv 64) λf=>(lV c f e)) λe=>Br (Value.bool e) (rt d (tP sZ i1) c) (CR d a 95 #[b] c λa b=>rt d (tP a i0) b)
theorem o6:qB L46 46:=λh=>sd (zA (zB (zB (zF 0 [] [1])))) func46 h
def L47:Y1:=λ_ a b c=>lL a i1 λd=>lO d (λd=>lG a (iv 64) λe=>(lV b e d)) λd=>Br (Value.bool d) (rt c (tP (.pointer none) i1) b) (dJ 160 1 8 (.map none) b a a λb d=>Build zQ 159 [(0,b)] λb=>lK d b 159 λb d=>yA [i0] d λd e f g=>lL f a λa=>Br a (lM 0 (pt b) g λa=>nu g λh i=>ai 1 a f λa=>St 1 i a h λa=>lA f i1 λh=>aR d e [h] a [f] g) (rt c (tP (pt b) i0) g))
theorem ym:qB L47 47:=λh=>sd (zA (.n (zB (zF 0 [] [1])) (zA (zB (zA (zB (zF 0 [17] [4,16]))))))) func47 h
def L48:Y2:=λa b c d e=>lW d #[(.pointer none),(.pointer none),sZ,sZ] 119 λd f=>CR e a 96 #[b] f λa b=>lX a λa f=>Build zQ 119 [(0,a),(1,c)] λa=>St 4 b (pt d) a λa=>az 4 a (pt d) λb=>rt e (tP b f) a
theorem yl:qC L48 48:=λh=>sd .e func48 h
def L49:Y1:=λ_ a b c=>ae .slice .eql a sZ λd=>Br d (rt c sZ b) (ak zQ 110 0 [] b λb d=>App zQ 3 1 8 i0 d b a λa b=>rt c a b)
theorem yj:qB L49 49:=λh=>sd .e func49 h
def L50:Y2:=λa b c d e=>lW d #[(.string (ByteArray.mk #[])),i0,i0] 27 λd f=>ai 4 c i0 λg=>ag 3 g λg=>Ld f g λg=>lL g i1 λg=>lO g (λg=>ai 4 c i0 λh=>ag 3 h λh=>Ld f h λh=>lG h (iv 64) λh=>(lV f h g)) λg=>Br (Value.bool g) (ai 4 c i0 λg=>ag 0 g λg=>ag 1 g λg=>Ld f g λg=>CR e a 16 #[g,i1] f λg h=>St 3 h (pt d) g λg=>az 3 g (pt d) λh=>rt e h g) (DR f λg=>ai 4 c i0 λh=>ag 3 h λh=>Ld g h λh=>ai 4 c i1 λi=>ag 3 i λi=>Ld g i λi=>CN a 27 #[h,i] f λf h=>aM h g/\
lX f λf g=>lN g i0 λi=>Br i (ai 4 c i1 λc=>ag 0 c λc=>ag 1 c λc=>Ld h c λc=>CR e a 16 #[c,g] h λa c=>St 3 c (pt d) a λa=>az 3 a (pt d) λc=>rt e c a) (lC 0 b λa=>St 1 h a f λa=>nu a λa c=>lC 1 b λb=>St 1 c b a λa=>Build zQ 27 [] λb=>St 3 a (pt d) b λa=>az 3 a (pt d) λb=>rt e b a))
theorem yh:qC L50 50:=λh=>sd (zA (.n (zB (zF 0 [] [1])) (zB (zF 0 (yR 14) [])))) func50 h
def L51:Y2:=λa b c d e=>lW d #[(.string (ByteArray.mk #[])),i0,i0] 27 λd f=>CR e a 97 #[b,c] f λf g=>lX f λf h=>lM 0 b g λi=>CR e a 98 #[i,f,h] g λf g=>lX f λf h=>ai 4 c i0 λc=>ag 0 c λc=>ag 0 c λc=>Ld g c λc=>CR e a 35 #[b,c,f,h] g λa b=>St 3 b (pt d) a λa=>az 3 a (pt d) λb=>rt e b a
theorem yg:qC L51 51:=λh=>sd .e func51 h
def L52:Y2:=λa b c d e=>lW d #[(.string (ByteArray.mk #[])),i0,i0] 27 λd f=>CR e a 97 #[b,c] f λf g=>lX f λf h=>lM 0 b g λi=>CR e a 99 #[i,f,h] g λf g=>lX f λf h=>ai 4 c i0 λc=>ag 0 c λc=>ag 0 c λc=>Ld g c λc=>CR e a 35 #[b,c,f,h] g λa b=>St 3 b (pt d) a λa=>az 3 a (pt d) λb=>rt e b a
theorem yf:qC L52 52:=λh=>sd .e func52 h
def L53:Y2:=λa b c d e=>lW d #[(.string (ByteArray.mk #[])),i0,i0] 27 λd f=>CR e a 97 #[b,c] f λf g=>lX f λf h=>lM 0 b g λi=>CR e a 100 #[i,f,h] g λf g=>lX f λf h=>ai 4 c i0 λc=>ag 0 c λc=>ag 0 c λc=>Ld g c λc=>CR e a 35 #[b,c,f,h] g λa b=>St 3 b (pt d) a λa=>az 3 a (pt d) λb=>rt e b a
theorem ye:qC L53 53:=λh=>sd .e func53 h
def L54:Y2:=λa b c d e=>lW d #[(.string (ByteArray.mk #[])),i0,i0] 27 λd f=>DR f λg=>lM 0 b g λh=>lM 1 b g λi=>ai 4 c i1 λj=>ag 0 j λj=>ag 0 j λj=>Ld g j λj=>gp (.string) (ui 0) false g i j λi=>CN a 101 #[h,i] f λf h=>aM h g/\
lX f λf g=>ai 4 c i0 λc=>ag 0 c λc=>ag 0 c λc=>Ld h c λc=>CR e a 35 #[b,c,f,g] h λa b=>St 3 b (pt d) a λa=>az 3 a (pt d) λb=>rt e b a
theorem yd:qC L54 54:=λh=>sd (zA (zB (zF 0 (yR 20) []))) func54 h
def L58:Y2:=λa b c d e=>lW d #[(.string (ByteArray.mk #[])),i0,i0] 27 λd f=>DR f λg=>lM 0 b g λh=>lM 1 b g λb=>ai 4 c i0 λc=>ag 0 c λc=>ag 0 c λc=>Ld g c λc=>gp (.string) (ui 0) false g b c λb=>CN a 107 #[h,b] f λb c=>aM c g/\
lX b λb f=>CR e a 108 #[b] c λb c=>CR e a 103 #[b,f] c λa b=>St 3 b (pt d) a λa=>az 3 a (pt d) λb=>rt e b a
theorem yc:qC L58 58:=λh=>sd (zA (zB (zF 0 (yR 20) []))) func58 h
def L60:Y2:=λa b c d e=>lW d #[(.string (ByteArray.mk #[])),i0,i0] 27 λd f=>DR f λg=>lM 1 b g λh=>ai 4 c i0 λi=>ag 0 i λi=>ag 0 i λi=>Ld g i λi=>gp (.string) (ui 0) false g h i λh=>lM 1 b g λb=>ai 4 c i1 λc=>ag 0 c λc=>ag 0 c λc=>Ld g c λc=>gp (.string) (ui 0) false g b c λb=>lE h b λb=>CN a 106 #[b] f λb c=>aM c g/\
CN a 103 #[b,i0] c λa b=>aM b g/\
St 3 b (pt d) a λa=>az 3 a (pt d) λb=>rt e b a
theorem yb:qC L60 60:=λh=>sd (zA (zB (zF 0 (yR 24) []))) func60 h
def L70:Y2:=λa b c d e=>CR e a 121 #[b,c] d λa b=>rt e a b
theorem ya:qC L70 70:=λh=>sd .e func70 h
def L75:Y1:=λ_ a b c=>oP a λd=>Br d (rt c i0 b) (lM 4 a b λa=>rt c a b)
theorem x9:qB L75 75:=λh=>sd .e func75 h
def L76:Y2:=λa b c d e=>lK d b 45 λb d=>lW d #[sZ] 189 λd f=>lM 2 c f λg=>bY g λh=>yA [i0] f λf i j k=>lL j h λh=>Br h (lI 1 g j k λg=>Ld k (pt b) λh=>CF a 76 #[h,g] k (λg h=>lX g λg l=>lN l i0 λm=>Br m (gC zQ a 124 #[(pt d),(pt b)] h λm=>rt e (tP (ui 0) l) m) (Ld h (pt d) λl=>ak zQ 189 1 [(0,g)] h λg h=>App zQ 82 1 4 (ui 0) h l g λg h=>St 1 h (pt d) g λg=>lA j i1 λh=>aR f i [h] g [j] k)) MG) (lM 0 c k λf=>jB (λg h=>Br g (DR h λg=>Ld g (pt b) λi=>lM 0 c g λj=>lE j (iv 2) λj=>CN a 125 #[i,j] h λi j=>aM j g/\
lX i λg i=>gC zQ a 124 #[(pt d),(pt b)] j λj=>rt e (tP g i) j) (lE f (iv 3) λg=>Br g (DR h λg=>Ld g (pt b) λi=>lM 1 c g λc=>CN a 126 #[i,c] h λc i=>aM i g/\
lX c λc g=>gC zQ a 124 #[(pt d),(pt b)] i λi=>rt e (tP c g) i) (lE f (iv 4) λc=>Br c (DR h λc=>Ld c (pt b) λg=>Ld c (pt d) λi=>lI 1 i i0 c λi=>CN a 101 #[g,i] h λg i=>aM i c/\
lX g λc g=>gC zQ a 124 #[(pt d),(pt b)] i λi=>rt e (tP c g) i) (lE f (iv 5) λc=>Br c (DR h λc=>Ld c (pt b) λg=>Ld c (pt d) λi=>lI 1 i i0 c λi=>Ld c (pt d) λj=>lI 1 j i1 c λj=>CN a 98 #[g,i,j] h λg i=>aM i c/\
lX g λc g=>gC zQ a 124 #[(pt d),(pt b)] i λi=>rt e (tP c g) i) (lE f (iv 6) λc=>Br c (DR h λc=>Ld c (pt b) λg=>Ld c (pt d) λi=>lI 1 i i0 c λi=>Ld c (pt d) λj=>lI 1 j i1 c λj=>CN a 100 #[g,i,j] h λg i=>aM i c/\
lX g λc g=>gC zQ a 124 #[(pt d),(pt b)] i λi=>rt e (tP c g) i) (lE f (iv 7) λc=>Br c (DR h λc=>Ld c (pt b) λg=>Ld c (pt d) λi=>lI 1 i i0 c λi=>Ld c (pt d) λj=>lI 1 j i1 c λj=>CN a 99 #[g,i,j] h λg i=>aM i c/\
lX g λc g=>gC zQ a 124 #[(pt d),(pt b)] i λi=>rt e (tP c g) i) (lE f (iv 8) λc=>Br c (DR h λc=>Ld c (pt b) λg=>Ld c (pt d) λi=>lI 1 i i0 c λi=>Ld c (pt d) λj=>lI 1 j i1 c λj=>CN a 127 #[g,(bi 11),i,j] h λg i=>aM i c/\
lX g λc g=>gC zQ a 124 #[(pt d),(pt b)] i λi=>rt e (tP c g) i) (lE f (iv 9) λc=>Br c (DR h λc=>Ld c (pt b) λg=>Ld c (pt d) λi=>lI 1 i i0 c λi=>Ld c (pt d) λj=>lI 1 j i1 c λj=>CN a 127 #[g,(bi 9),i,j] h λg i=>aM i c/\
lX g λc g=>gC zQ a 124 #[(pt d),(pt b)] i λi=>rt e (tP c g) i) (DR h λc=>Ld c (pt b) λg=>Ld c (pt d) λi=>lI 1 i i0 c λi=>Ld c (pt d) λj=>lI 1 j i1 c λj=>Ld c (pt d) λl=>lI 1 l (iv 2) c λl=>CN a 128 #[g,i,j,l] h λg h=>aM h c/\
lX g λc g=>gC zQ a 124 #[(pt d),(pt b)] h λa=>rt e (tP c g) a))))))))) λa=>lE f i1 λb=>Br b (JE a [b] k) (lE f (iv 2) λb=>JE a [b] k))
theorem x7(h:L76 g a0 a1 H R):sc g 76 #[a0,a1] H R:=
 zc (hn:=(hN 3 (.n (zA (zB (zF 0 [17] [1,2,6,15,16]))) (.n (zA (zB (.h 1 [39] [1,2,6,38] .e (.n (zB (zF 0 (yR 11) [])) (zA (.n (zB (zF 0 (yR 10) [])) (zA (.n (zB (zF 0 (yR 9) [])) (zA (.n (zB (zF 0 (yR 12) [])) (zA (.n (zB (zF 0 (yR 12) [])) (zA (.n (zB (zF 0 (yR 12) [])) (zA (.n (zB (zF 0 (yR 12) [])) (zA (zB (zB (zF 0 (yR 12) [])))))))))))))))))))) (zB (zF 0 (yR 15) [])))))) func76 h zK
def L77:Y3:=λa b c d e f=>lW e #[(.string (ByteArray.mk #[])),i0,i0] 27 λe g=>jA (λh=>lM 1 b h λi=>fm (.string) h i c d λh=>lM 0 b h λi=>ak zQ 189 1 [(0,d)] h λd h=>CR f a 129 #[i,d] h λd h=>lX d λd i=>CR f a 110 #[d] h λd h=>CR f a 103 #[d,i] h λd h=>St 3 h (pt e) d λd=>az 3 d (pt e) λe=>rt f e d) λd=>lM 1 b g λe=>gp (.string) (ui 0) true g e c λc=>lX c λc e=>Br e (lM 0 b g λb=>CR f a 102 #[b,c] g λ_ a=>JE d [] a) (JE d [] g)
theorem x5:qD L77 77:=λh=>sd (zA (zF 1 [] [0,1,2,6])) func77 h
def L78:Y1:=λa b c d=>jC (λe f g=>rt d (tP e f) g) λe=>dX zQ a (e6 Tryz.f78 2 1) (ev (λf=>cond (Nat.beq f 8) b (undef))) c (λb c=>yB [i0,i0] c λc g h i j=>dX zQ a (e6 Tryz.f78 3 0) (ev (λf=>cond (Nat.beq f 9) b (undef))) j (λa b=>Ext 0 a λf=>Br f (Ext 2 a λa=>lL a (Value.int .i32 48) λf=>lO f (λf=>lG a (Value.int .i32 57) λk=>(lV b k f)) λf=>lO (Value.bool f) (λf=>lE i i1 λk=>bL k true (λk=>lE h i0 λl=>(lV b l k)) (λk=>vF=Value.bool k) λk=>∀_:Fr,
(lV b (Value.bool k) f)) λf=>Br (Value.bool f) (JE e [h,i] b) (oM (iv 10) h λf=>lS a (Value.int .i32 48) λa=>bj .i64 a λa=>lA f a λa=>xM a (iv 1048576) λa=>lA i i1 λf=>aR c g [a,f] b [h,i] j)) (JE e [h,i] b)) (dj d)) (dj d)
theorem x3:qB L78 78:=λh=>sd (zA (zA (zE 1 [4,5] [] (zA (zB (zE 0 [4,5] [9] (zA (zA (zB (zA (zB (zB (zF 0 [] [1]))))))))))))) func78 h
def L79:Y0:=λ_ a b=>Build zQ 146 [(0,(.string (ByteArray.mk #[60,45,62]))),(1,(iv 9))] λc=>Build zQ 146 [(0,(.string (ByteArray.mk #[45,62]))),(1,(iv 8))] λd=>Build zQ 146 [(0,(.string (ByteArray.mk #[48]))),(1,i1)] λe=>Build zQ 146 [(0,(.string (ByteArray.mk #[49]))),(1,(iv 2))] λf=>Build zQ 146 [(0,(.string (ByteArray.mk #[33]))),(1,(iv 4))] λg=>Build zQ 146 [(0,(.string (ByteArray.mk #[38]))),(1,(iv 5))] λh=>Build zQ 146 [(0,(.string (ByteArray.mk #[94]))),(1,(iv 6))] λi=>Build zQ 146 [(0,(.string (ByteArray.mk #[124]))),(1,(iv 7))] λj=>Build zQ 146 [(0,(.string (ByteArray.mk #[40]))),(1,(iv 10))] λk=>Build zQ 146 [(0,(.string (ByteArray.mk #[41]))),(1,(iv 11))] λl=>Build zQ 146 [(0,(.string (ByteArray.mk #[91]))),(1,(iv 12))] λm=>Build zQ 146 [(0,(.string (ByteArray.mk #[63]))),(1,(iv 13))] λn=>Build zQ 146 [(0,(.string (ByteArray.mk #[58]))),(1,(iv 14))] λo=>Build zQ 146 [(0,(.string (ByteArray.mk #[93]))),(1,(iv 15))] λp=>ak zQ 144 14 [(0,c),(1,d),(2,e),(3,f),(4,g),(5,h),(6,i),(7,j),(8,k),(9,l),(10,m),(11,n),(12,o),(13,p)] a λa c=>rt b a c
theorem xZ:qA L79 79:=λh=>sd .e func79 h
def L80:Y2:=λa b c d e=>CR e a 83 #[b] d λd f=>lQ 3 f #[i0,i0,i0] 141 d λd f=>lD 0 (pt d) f λg=>jB (λh i=>Br h (lD 0 (pt d) i λh=>Build zQ 101 [(0,h)] λh=>lK i h 101 λh j=>rt e (pt h) j) (lE g (iv 3) λh=>Br h (jA (λh=>lD 2 (pt d) h λj=>Build zQ 101 [(0,(iv 3)),(1,j)] λj=>lK h j 101 λh j=>rt e (pt h) j) λh=>lD 2 (pt d) i λj=>lM 1 b i λk=>oG j k λj=>Br j (az 3 i (pt d) λj=>CR e a 84 #[j,(iv 2)] i λ_ j=>JE h [] j) (JE h [] i)) (lE g (iv 4) λh=>Br h (az 3 i (pt d) λh=>CR e a 130 #[h,c] i λh j=>CR e a 80 #[b,h] j λh j=>ak zQ 99 1 [(0,h)] j λh j=>Build zQ 101 [(0,(iv 4)),(2,h)] λh=>lK j h 101 λh j=>rt e (pt h) j) (lE g (iv 10) λh=>Br h (az 3 i (pt d) λh=>CR e a 130 #[h,c] i λh j=>CR e a 38 #[b,i0,h] j λh j=>CR e a 39 #[b,(iv 11)] j λ_ j=>rt e h j) (lE g (iv 12) λh=>Br h (az 3 i (pt d) λh=>CR e a 130 #[h,c] i λc h=>CR e a 38 #[b,i0,c] h λh j=>CR e a 39 #[b,(iv 13)] j λ_ j=>CR e a 38 #[b,i0,c] j λj k=>CR e a 39 #[b,(iv 14)] k λ_ k=>CR e a 38 #[b,i0,c] k λc k=>CR e a 39 #[b,(iv 15)] k λ_ b=>ak zQ 99 3 [(0,h),(1,j),(2,c)] b λb c=>Build zQ 101 [(0,(iv 12)),(2,b)] λb=>lK c b 101 λb c=>rt e (pt b) c) (az 3 i (pt d) λb=>CR e a 84 #[b,(iv 14)] i λ_ a=>rt e (.pointer none) a)))))) λa=>lE g i1 λb=>Br b (JE a [b] f) (lE g (iv 2) λb=>JE a [b] f)
theorem xY:qC L80 80:=λh=>sd (zA (zA (zB (zA (zB (.h 1 [14] [0,1,5,13] .e (zA (zA (zB (zF 1 [] [5])))))))))) func80 h
def L81:Y1:=λ_ a b c=>ak zQ 196 5 [(0,(iv 9)),(1,(iv 8)),(2,(iv 7)),(3,(iv 6)),(4,(iv 5))] b λb d=>lI 1 b a d λa=>rt c a d
theorem xX:qB L81 81:=λh=>sd .e func81 h
def L82:Y1:=λ_ a b c=>lW b #[i0,i0,i0] 141 λb d=>lM 0 a d λa=>ai 3 a i0 λa=>az 3 d a λa=>St 3 d (pt b) a λa=>az 3 a (pt b) λb=>rt c b a
theorem xW:qB L82 82:=λh=>sd .e func82 h
def L83:Y1:=λ_ a b c=>lW b #[i0,i0,i0] 141 λb d=>lM 0 a d λe=>ai 3 e i0 λe=>az 3 d e λe=>lQ 3 d #[i0,i0,i0] 141 e λd e=>lM 0 a e λf=>cF 3 f (some i1) none λf=>lC 0 a λa=>St 1 e a f λa=>az 3 a (pt d) λd=>St 3 a (pt b) d λa=>az 3 a (pt b) λb=>rt c b a
theorem xV:qB L83 83:=λh=>sd .e func83 h
def L84:Y2:=λa b c d e=>lK d b 141 λb d=>lD 1 (pt b) d λb=>Build zQ 88 [(0,b),(1,c)] λb=>dX zQ a (e6 Tryz.f84 1 5) (ev (λa=>cond (Nat.beq a 8) (.iface 88 b) (undef))) d (λ_ a=>rt e (.tuple #[]) a) (dj e)
theorem xU:qC L84 84:=λh=>sd .e func84 h
def L95:Y1:=λ_ a b c=>dJ 3 1 8 i0 b a a λb d=>yA [i0] d λd e f g=>lL f a λa=>Br a (ai 1 b f λa=>St 1 g a f λa=>lA f i1 λh=>aR d e [h] a [f] g) (rt c b g)
theorem xS:qB L95 95:=λh=>sd (zA (zA (zB (zA (zB (zF 0 [8] [3,7])))))) func95 h
def L96:Y1:=λ_ a b c=>lL a (iv 2) λd=>lO d (λd=>lG a (iv 1048576) λe=>(lV b e d)) λd=>Br (Value.bool d) (rt c (tP (.pointer none) i1) b) (Build zQ 199 [(0,a),(3,(iv 2))] λa=>lK b a 199 λa b=>yA [(ui 0)] b λb d e f=>lL e (ui 2) λg=>Br g (lM 1 (pt a) f λg=>Build zQ 201 [(0,(iv (-1))),(1,e),(2,e)] λh=>Build zQ 203 [(0,h),(1,vT),(2,(bi 255))] λh=>ak zQ 197 1 [(0,h)] f λh i=>App zQ 203 5 24 (.agg #[i0,(ui 0),(ui 0),vF,(bi 0)]) i g h λg h=>lC 1 (pt a) λi=>St 1 h i g λg=>lA e (ui 1) λh=>aR b d [h] g [e] f) (rt c (tP (pt a) i0) f))
theorem xR:qB L96 96:=λh=>sd (zA (.n (zB (zF 0 [] [1])) (zA (zB (zA (zB (zF 0 [15] [4]))))))) func96 h
def L97:Y2:=λ_ a b c d=>lM 1 a c λe=>ai 4 b i1 λf=>ag 0 f λf=>ag 0 f λf=>Ld c f λf=>gp (.string) (ui 0) false c e f λe=>lM 1 a c λa=>ai 4 b (iv 2) λb=>ag 0 b λb=>ag 0 b λb=>Ld c b λb=>gp (.string) (ui 0) false c a b λa=>rt d (tP e a) c
theorem xQ:qC L97 97:=λh=>sd .e func97 h
def L98:Y3:=λa b c d e f=>CR f a 127 #[b,(bi 8),c,d] e λa b=>lX a λa c=>rt f (tP a c) b
theorem xP:qD L98 98:=λh=>sd .e func98 h
def L99:Y3:=λa b c d e f=>CR f a 127 #[b,(bi 14),c,d] e λa b=>lX a λa c=>rt f (tP a c) b
theorem xO:qD L99 99:=λh=>sd .e func99 h
def L100:Y3:=λa b c d e f=>CR f a 127 #[b,(bi 6),c,d] e λa b=>lX a λa c=>rt f (tP a c) b
theorem uH:qD L100 100:=λh=>sd .e func100 h
def L101:Y2:=λa b c d e=>CR e a 127 #[b,(bi 3),c,(ui 0)] d λa b=>lX a λa c=>rt e (tP a c) b
theorem uG:qC L101 101:=λh=>sd .e func101 h
def L102:Y2:=λa b c d e=>oP b λf=>Br f (rt e (iv 10) d) (jA (λf=>lC 7 b λg=>St 1 f g sZ λf=>rt e i0 f) λf=>lG c (ui 1) λg=>Br g (CR e a 131 #[b,c] d λg h=>lE g i0 λg=>Br g (rt e (iv 3) h) (lC 0 b λg=>ag 3 g λg=>Ld h g λg=>lI 1 g c h λi=>lS i (Value.int .i32 1) λi=>ai 1 g c λg=>St 1 h g i λg=>lC 0 b λh=>ag 3 h λh=>Ld g h λh=>lI 1 h c g λh=>lE h (Value.int .i32 0) λh=>Br h (lC 0 b λb=>CR e a 132 #[b,c] g λ_ a=>JE f [] a) (JE f [] g))) (JE f [] d))
theorem nF:qC L102 102:=λh=>sd (zA (zA (zF 1 [] [0]))) func102 h
def L103:Y2:=λa b c d e=>lW d #[(.string (ByteArray.mk #[])),i0,i0] 27 λd f=>lN c i0 λg=>Br g (CR e a 16 #[i0,c] f λa c=>St 3 c (pt d) a λa=>az 3 a (pt d) λc=>rt e c a) (Build zQ 27 [(0,b)] λa=>St 3 f (pt d) a λa=>az 3 a (pt d) λb=>rt e b a)
theorem uF:qC L103 103:=λh=>sd .e func103 h
variable {g:Gh} {a0 a1 a2 a3 a4 a5 a6 a7 a8 a9 GC GB Jx Jw Jv Ju:zV} {H:Hp} {R:Rt}
def L106:Y1:=λ_ a b c=>Br a (c (.returned (.string (ByteArray.mk #[49]))) b) (c (.returned (.string (ByteArray.mk #[48]))) b)
theorem uE:qB L106 106:=λh=>sd .e func106 h
def L107:Y2:=λa b c d e=>lK d b 45 λb d=>Ld d (pt b) λf=>ak zQ 189 1 [(0,c)] d λd g=>CR e a 136 #[f,d] g λd f=>lN d i0 λg=>Br g (rt e (tP (wi 0) d) f) (lW f #[.nilFunc] 204 λd f=>St 1 f (pt d) (.func (.func 139) #[] #[(pt b)]) λf=>Ld f (pt b) λg=>CR e a 141 #[g,c,(wi 0),(wi 1),(.func (.func 142) #[] #[(pt b),(pt d)])] f λb f=>Ld f (pt d) λd=>bp zQ a d #[c] f (λa c=>oL b a λa=>rt e (tP a i0) c) (dj e))
theorem uD:qC L107 107:=λh=>sd .e func107 h
def L108:Y1:=λa b c d=>CR d a 143 #[b,(iv 10)] c λa b=>rt d a b
theorem uC:qB L108 108:=λh=>sd .e func108 h
def L110:Y1:=λa b c d=>CR d a 145 #[b] c λa b=>rt d a b
theorem uB:qB L110 110:=λh=>sd .e func110 h
def L112:Y1:=λa b c d=>oP b λe=>Br e (rt d sZ c) (lM 5 b c λb=>CR d a 49 #[b] c λa b=>rt d a b)
theorem uA:qB L112 112:=λh=>sd .e func112 h
def L121:Y2:=λa b c d e=>aA b λf=>aA c λg=>oG f g λf=>lU f (λf=>aA c λg=>br zQ a (e6 Tryz.f121 1 9) (ev (λa=>cond (Nat.beq a 11) b (cond (Nat.beq a 13) g (undef)))) d λa=>ae .str .eql a c λa=>(lV d a f)) λf=>rt e (Value.bool f) d
theorem uz:qC L121 121:=λh=>sd (zA (zB (zF 0 [] [1]))) func121 h
def L124:Y2:=λa b c d e=>Ld d b λb=>bY b λf=>yA [i0] d λd g h i=>lL h f λf=>Br f (lI 1 b h i λb=>Ld i c λc=>CR e a 102 #[c,b] i λ_ a=>lA h i1 λb=>aR d g [b] a [h] i) (rt e (.tuple #[]) i)
theorem rV(h:L124 g a0 a1 H R):ik zQ g 124 #[a0,a1] H R:=
 ze (hn:=(zA (zB (zF 0 [6] [1,4,5])))) func124 h zK
def L125:Y2:=λa b c d e=>oP b λf=>Br f (rt e (tP (ui 0) (iv 10)) d) (jB (λf g=>CR e a 157 #[b,f] g λa b=>rt e (tP f a) b) λa=>Br c (JE a [(ui 1)] d) (JE a [(ui 0)] d))
theorem uy:qC L125 125:=λh=>sd (hN 3 (zF 1 [6] [0])) func125 h
def L126:Y2:=λa b c d e=>oP b λf=>Br f (rt e (tP (ui 0) (iv 10)) d) (CR e a 158 #[b,c,(ui 0),(ui 1)] d λa b=>lX a λa c=>rt e (tP a c) b)
theorem ux:qC L126 126:=λh=>sd .e func126 h
def L127:Y4:=λa b c d e f g=>lK f c 5 λc f=>oP b λh=>Br h (rt g (tP (ui 0) (iv 10)) f) (Ld f (pt c) λh=>lG h (bi 15) λh=>Br h (rt g (tP (ui 0) i1) f) (ak zQ 189 2 [(0,d),(1,e)] f λf h=>CR g a 159 #[b,f] h λb f=>lX b λb h=>lN h i0 λi=>Br i (rt g (tP (ui 0) h) f) (Build zQ 237 [(0,d),(1,e)] λd=>CR g a 160 #[b,d,(.func (.func 161) #[] #[(pt c)])] f λa b=>lX a λa c=>rt g (tP a c) b)))
theorem uw:qE L127 127:=λh=>sd .e func127 h
def L128:Y4:=λa b c d e f g=>ak zQ 189 3 [(0,c),(1,d),(2,e)] f λf h=>CR g a 159 #[b,f] h λb f=>lX b λb h=>lN h i0 λi=>Br i (rt g (tP (ui 0) h) f) (Build zQ 237 [(0,c),(1,d),(2,e)] λc=>CR g a 160 #[b,c,(.func (.func 163) #[] #[])] f λa b=>lX a λa c=>rt g (tP a c) b)
theorem uv:qE L128 128:=λh=>sd .e func128 h
def L129:Y2:=λa b c d e=>CR e a 136 #[b,c] d λd f=>lN d i0 λg=>Br g (rt e (tP i0 d) f) (lQ 1 f #[i0] 3 i0 λd f=>CR e a 164 #[b,c,(.func (.func 165) #[] #[(pt d)])] f λ_ a=>Ld a (pt d) λb=>rt e (tP b i0) a)
theorem uu:qC L129 129:=λh=>sd .e func129 h
def L130:Y2:=λa b c d e=>lK d b 141 λb d=>jA (λf=>lA c i1 λg=>rt e g f) λf=>oG c (iv 1000) λc=>Br c (az 3 d (pt b) λb=>CR e a 84 #[b,(iv 7)] d λ_ a=>JE f [] a) (JE f [] d)
theorem ur:qC L130 130:=λh=>sd (zA (zF 1 [] [1])) func130 h
def L131:Y2:=λ_ a b c d=>oP a λe=>lO e (λe=>bj .i64 b λf=>lC 0 a λg=>ag 3 g λg=>Ld c g λg=>bY g λg=>oG f g λf=>(lV c f e)) λe=>Br (Value.bool e) (rt d i0 c) (lC 0 a λa=>ag 3 a λa=>Ld c a λa=>lI 1 a b c λa=>bj .i64 a λa=>rt d a c)
theorem uo:qC L131 131:=λh=>sd (zA (zB (zB (zF 0 [] [1])))) func131 h
def L132:Y2:=λa b c d e=>ak zQ 189 1 [(0,c)] d λc d=>yA [c] d λc d f g=>bY f λh=>lG h i0 λh=>Br h (bY f λh=>lS h i1 λh=>lI 1 f h g λi=>cF 1 f none (some h) λh=>oQ i (ui 1) λj=>Br j (aR c d [h] g [f] g) (lM 2 b g λj=>lI 1 j i g λk=>lS k (Value.int .i32 1) λk=>ai 1 j i λj=>St 1 g j k λj=>lM 2 b j λk=>lI 1 k i j λk=>lG k (Value.int .i32 0) λk=>Br k (aR c d [h] j [f] g) (CR e a 166 #[b,i] j λj k=>lQ 3 k nC 201 j λj k=>DR k λl=>lM 1 b l λm=>az 3 l (pt j) λl=>CN a 167 #[m,l] k λ_ k=>lM 0 b k λb=>CR e a 168 #[b,i] k λ_ a=>lD 1 (pt j) a λb=>lD 2 (pt j) a λi=>ak zQ 189 2 [(0,b),(1,i)] a λa b=>App zQ 82 1 4 (ui 0) b h a λa b=>aR c d [a] b [f] g))) (rt e (.tuple #[]) g)
theorem um:qC L132 132:=λh=>sd (zA (zB (zE 0 [4] [0] (zA (zB (hN 6 (zB (zF 0 (yR 6) [])))))))) func132 h
def L133:Y2:=λa b c d e=>lW d nC 201 λd f=>oP b λg=>Br g (Build zQ 201 [] λg=>St 3 f (pt d) g λg=>az 3 g (pt d) λh=>rt e (tP h (iv 10)) g) (lC 0 b λg=>CR e a 169 #[g,c] f λf g=>Un .not f λf=>Br f (Build zQ 201 [] λf=>St 3 g (pt d) f λf=>az 3 f (pt d) λh=>rt e (tP h (iv 3)) f) (lC 0 b λb=>CR e a 166 #[b,c] g λa b=>St 3 b (pt d) a λa=>az 3 a (pt d) λb=>rt e (tP b i0) a))
theorem uk:qC L133 133:=λh=>sd .e func133 h
def L136:Y2:=λa b c d e=>oP b λf=>Br f (rt e (iv 10) d) (bY c λf=>yA [i0] d λd g h i=>lL h f λf=>Br f (lI 1 c h i λc=>CR e a 133 #[b,c] i λa b=>lX a λa c=>lQ 3 b nC 201 a λ_ a=>lN c i0 λb=>Br b (rt e c a) (lA h i1 λb=>aR d g [b] a [h] i)) (rt e i0 i))
theorem uj:qC L136 136:=λh=>sd (zA (zA (zB (zA (zB (zF 0 [13] [0,11,12])))))) func136 h
def L137:Y1:=λ_ a b c=>lE a (ui 0) λd=>lO d (λd=>lE a (ui 1) λa=>(lV b a d)) λd=>rt c (Value.bool d) b
theorem uh:qB L137 137:=λh=>sd (zA (zB (zF 0 [] [1]))) func137 h
def L138:Y2:=λa b c d e=>lW d nC 201 λd f=>CR e a 133 #[b,c] f λa b=>lX a λa _=>lQ 3 b nC 201 a λa b=>az 3 b (pt a) λa=>St 3 b (pt d) a λa=>az 3 a (pt d) λb=>rt e b a
theorem ug:qC L138 138:=λh=>sd .e func138 h
def L139:Y2:=λa b c d e=>CR e a 137 #[b] d λd f=>Br d (Ld f c λd=>CR e a 75 #[d] f λd g=>rt e d g) (DR f λd=>Ld d c λg=>Ld d c λc=>∀h:Hp,
CN (a.add h) 138 #[c,b] f λb c=>aM c d/\
qf 0 b λb=>∀f:Hp,
CN (a.add f) 140 #[g,b] c λa b=>aM b d/\
lX a λa _=>rt e a b)
theorem uf:qC L139 139:=λh=>sd (zA (zA (zB (zE 1 [] [] (hr 0 [1] 0 11 .e))))) func139 h
def L140:Y2:=λa b c d e=>oP b λf=>Br f (rt e (tP i0 (iv 10)) d) (CR e a 171 #[b,c] d λa d=>Un .not a λa=>Br a (rt e (tP i0 (iv 2)) d) (lM 6 b d λa=>lI 1 a c d λa=>rt e (tP a i0) d))
theorem ue:qC L140 140:=λh=>sd .e func140 h
def L141:Y5:=λa b c d e f g h=>lK g b 45 λb g=>lK g f 217 λf g=>nu g λg i=>fm (.int .u32) i g (ui 0) d λd=>fm (.int .u32) d g (ui 1) e λd=>lQ 1 d #[(.map none)] 246 g λd e=>lW e #[.nilFunc] 247 λe g=>St 1 g (pt e) (.func (.func 172) #[] #[(pt d),(pt b),(pt f),(pt e)]) λb=>Ld b (pt e) λd=>bp zQ a d #[c] b (λa b=>rt h a b) (dj h)
theorem ud:qF L141 141:=λh=>sd .e func141 h
def L142:Y5:=λa b c d e f g h=>lK g b 201 λb g=>Ld g e λe=>lD 0 (pt b) g λi=>CR h a 140 #[e,i] g λe g=>lX e λe _=>DR g λi=>Ld i f λj=>lD 1 (pt b) i λk=>Ld i f λf=>lD 2 (pt b) i λb=>∀l:Hp,
bp zQ (a.add l) j #[k] g (λg j=>aM j i/\
lS g e λg=>lS g i1 λg=>oL c g λc=>∀g:Hp,
bp zQ (a.add g) f #[b] j (λa b=>lS a e λa=>lS a i1 λa=>oL d a λa=>lA c a λa=>rt h a b) xL) xL
theorem uc:qF L142 142:=λh=>sd (zA (zA (zB (zE 1 [] [] (hr 0 [1] 0 4 (zE 0 [5] [1] (hr 0 [1] 9 4 (zE 0 [14] [1] (zE 0 [4] [1] (hr 0 [1] 6 3 (zE 0 [13] [1] (hr 0 [1] 15 5 .e)))))))))))) func142 h
def L143:Y2:=λa b c d e=>CR e a 173 #[b,c] d λa b=>rt e a b
theorem ua:qC L143 143:=λh=>sd .e func143 h
def L145:Y1:=λa b c d=>CR d a 179 #[b,(iv 10)] c λa b=>rt d a b
theorem tZ:qB L145 145:=λh=>sd .e func145 h
def L146:Y1:=λ_ a b c=>oP a λd=>Br d (rt c i0 b) (lM 3 a b λa=>rt c a b)
theorem tY:qB L146 146:=λh=>sd .e func146 h
def L157:Y2:=λa b c d e=>oP b λf=>Br f (rt e (iv 10) d) (lC 0 b λf=>CR e a 169 #[f,c] d λa d=>Un .not a λa=>Br a (rt e (iv 3) d) (jA (λa=>lC 7 b λf=>St 1 a f sZ λa=>rt e i0 a) λa=>lG c (ui 1) λf=>Br f (lC 0 b λf=>ag 3 f λf=>Ld d f λf=>lI 1 f c d λf=>lE f (Value.int .i32 65535) λf=>Br f (rt e (iv 8) d) (lC 0 b λe=>ag 3 e λe=>Ld d e λe=>lI 1 e c d λf=>lA f (Value.int .i32 1) λf=>ai 1 e c λe=>St 1 d e f λe=>lC 0 b λf=>ag 3 f λf=>Ld e f λf=>lI 1 f c e λf=>lE f (Value.int .i32 1) λf=>Br f (lC 0 b λb=>ag 2 b λb=>Ld e b λb=>lI 1 b c e λf=>lA f (Value.int .i32 1) λf=>ai 1 b c λb=>St 1 e b f λb=>JE a [] b) (JE a [] e))) (JE a [] d)))
theorem nE:qC L157 157:=λh=>sd (zA (zA (zF 1 [] [0]))) func157 h
def L158:Y4:=λa b c d e f g=>oP b λh=>Br h (rt g (tP (ui 0) (iv 10)) f) (CR g a 202 #[b,c,d,e] f λf h=>lN f i0 λi=>Br i (rt g (tP (ui 0) f) h) (CR g a 203 #[b,c,d,e] h λf h=>lX f λf i=>jB (λj k=>CR g a 157 #[b,j] k λk l=>lN k i0 λm=>Br m (rt g (tP (ui 0) k) l) (rt g (tP j i0) l)) λj=>Un .not i λi=>Br i (lC 0 b λi=>CR g a 187 #[i,i1] h λi k=>Un .not i λi=>Br i (rt g (tP (ui 0) (iv 9)) k) (lC 0 b λb=>Build zQ 201 [(0,c),(1,d),(2,e)] λc=>CR g a 204 #[b,c] k λa b=>JE j [a] b)) (JE j [f] h)))
theorem tX:qE L158 158:=λh=>sd (hN 4 (zF 1 [11] [0])) func158 h
def L159:Y2:=λa b c d e=>oP b λf=>Br f (rt e (tP (.pointer none) (iv 10)) d) (bY c λf=>yA [i0] d λd g h i=>lL h f λf=>Br f (lI 1 c h i λc=>CR e a 133 #[b,c] i λc f=>lX c λc j=>lQ 3 f nC 201 c λ_ c=>lN j i0 λf=>Br f (rt e (tP (.pointer none) j) c) (lA h i1 λf=>aR d g [f] c [h] i)) (CR e a 75 #[b] i λc d=>dJ 3 1 8 i0 d c c λc d=>Build zQ 289 [(0,b),(1,c)] λc=>lK d c 289 λc d=>CR e a 112 #[b] d λa b=>bY a λd=>yA [i0] b λb f g h=>lL g d λd=>Br d (lI 1 a g h λa=>lM 1 (pt c) h λd=>ai 1 d a λa=>St 1 h a g λa=>lA g i1 λd=>aR b f [d] a [g] h) (rt e (tP (pt c) i0) h)))
theorem tW:qC L159 159:=λh=>sd (zA (zA (.n (zA (zB (zF 0 [17] [0,15,16]))) (zA (zB (zA (zB (zF 0 [40] [10,38,39])))))))) func159 h
def L160:Y3:=λa b c d e f=>lK e b 232 λb e=>lK e c 237 λc e=>lK e d 239 λd e=>lW e #[(ui 0)] 82 λe g=>lW g #[i0] 25 λg h=>nu h λh i=>lQ 1 i #[(.map none)] 291 h λh i=>lW i #[.nilFunc] 292 λi j=>St 1 j (pt i) (.func (.func 207) #[] #[(pt h),(pt b),(pt d),(pt i)]) λd=>Ld d (pt i) λh=>az 3 d (pt c) λc=>bp zQ a h #[c] d (λc d=>lX c λc h=>St 1 d (pt e) c λc=>St 1 c (pt g) h λc=>gC zQ a 205 #[(pt b),(pt e),(pt g)] c λa=>Ld a (pt e) λb=>Ld a (pt g) λc=>rt f (tP b c) a) MG
theorem tV(h:L160 g a0 a1 a2 H R):sc g 160 #[a0,a1,a2] H R:=
 zc (hn:=(zA (zA .e))) func160 h zK
def L161:Y4:=λa b c _ d e f=>DR e λg=>Ld g d λd=>CN a 162 #[b] e λb e=>aM e g/\
oM (bi 2) b λb=>CN a 162 #[c] e λa c=>aM c g/\
lA b a λa=>oR d a λa=>oA a (bi 1) λa=>lE a (bi 1) λa=>rt f a c
theorem tU:qE L161 161:=λh=>sd (zA (zB (zF 0 [0,1,4,2,3,5,6,7,8,9,10] []))) func161 h
def L162:Y1:=λ_ a b c=>Br a (rt c (bi 1) b) (rt c (bi 0) b)
theorem tT:qB L162 162:=λh=>sd .e func162 h
def L163:Y3:=λ_ a b c d e=>lU a (λf=>(lV d b f)) λf=>lO (Value.bool f) (λb=>Un .not a λa=>bL a true (λa=>(lV d c a)) (λa=>vF=Value.bool a) λa=>∀_:Fr,
(lV d (Value.bool a) b)) λb=>rt e (Value.bool b) d
theorem tS:qD L163 163:=λh=>sd (zA (zB (zF 0 [] [1]))) func163 h
def L164:Y3:=λa b c d e f=>lK e b 45 λb e=>lK e d 241 λd e=>nu e λe g=>lQ 1 g #[(.map none)] 296 e λe g=>lW g #[.nilFunc] 205 λg h=>St 1 h (pt g) (.func (.func 211) #[] #[(pt e),(pt b),(pt d),(pt g)]) λb=>bY c λd=>yA [i0] b λb e h i=>lL h d λd=>Br d (lI 1 c h i λc=>Ld i (pt g) λd=>bp zQ a d #[c] i (λ_ a=>lA h i1 λc=>aR b e [c] a [h] i) (dj f)) (rt f (.tuple #[]) i)
theorem tR:qD L164 164:=λh=>sd (hN 5 (zB (zF 0 [14] [7,12,13]))) func164 h
def L165:Y2:=λ_ a b c d=>lK c a 201 λ_ a=>Ld a b λc=>lA c i1 λc=>St 1 a b c λa=>rt d (.tuple #[]) a
theorem tQ:qC L165 165:=λh=>sd .e func165 h
def L166:Y2:=λa b c d e=>lW d nC 201 λd f=>lM 0 b f λb=>CR e a 212 #[b,c] f λa b=>lX a λa _=>lQ 3 b nC 201 a λa b=>az 3 b (pt a) λa=>St 3 b (pt d) a λa=>az 3 a (pt d) λb=>rt e b a
theorem tO:qC L166 166:=λh=>sd .e func166 h
def L167:Y2:=λa b c d e=>lK d c 201 λc d=>lD 0 (pt c) d λf=>CR e a 213 #[b,f] d λa d=>lN a i0 λf=>Br f (rt e a d) (lM 0 b d λa=>lD 0 (pt c) d λf=>lI 1 a f d λa=>az 3 d (pt c) λf=>gx zQ 201 (ui 0) true d a f λa=>lX a λ_ a=>Un .not a λa=>Br a (rt e (iv 10) d) (DR d λa=>lM 0 b a λb=>lD 0 (pt c) a λf=>lI 1 b f a λb=>az 3 a (pt c) λc=>jT zQ 201 d b c λb=>aM b a/\
rt e i0 b))
theorem tN:qC L167 167:=λh=>sd (hN 3 (zB (zF 0 (yR 10) []))) func167 h
def L168:Y2:=λa b c d e=>oP b λf=>Br f (rt e (iv 10) d) (CR e a 214 #[b,c] d λa d=>lN a i0 λf=>Br f (rt e a d) (lM 1 b d λa=>Build zQ 203 [] λf=>ai 5 a c λa=>St 5 d a f λa=>lM 2 b a λd=>ak zQ 189 1 [(0,c)] a λa c=>App zQ 82 1 4 (ui 0) c d a λa c=>lC 2 b λd=>St 1 c d a λa=>lM 3 b a λc=>lS c i1 λc=>lC 3 b λb=>St 1 a b c λa=>rt e i0 a))
theorem tM:qC L168 168:=λh=>sd .e func168 h
def L169:Y2:=λa b c d e=>lM 0 b d λb=>CR e a 212 #[b,c] d λa b=>lX a λa c=>lQ 3 b nC 201 a λ_ a=>lE c i0 λb=>rt e b a
theorem tL:qC L169 169:=λh=>sd .e func169 h
def L171:Y2:=λ_ a b c d=>oG b i0 λe=>lU e (λe=>lM 4 a c λa=>lL b a λa=>(lV c a e)) λe=>rt d (Value.bool e) c
theorem tK:qC L171 171:=λh=>sd (zA (zB (zF 0 [] [1]))) func171 h
def L172:Y5:=λa b c d e f g h=>Ld g c λi=>gp (.int .u32) (wi 0) true g i b λi=>lX i λi j=>Br j (rt h i g) (Ld g d λd=>CR h a 138 #[d,b] g λd g=>lQ 3 g nC 201 d λd g=>DR g λi=>Ld i e λe=>az 3 i (pt d) λj=>Ld i f λk=>lD 1 (pt d) i λl=>Ld i f λf=>lD 2 (pt d) i λd=>∀m:Hp,
bp zQ (a.add m) k #[l] g (λg k=>aM k i/\
∀l:Hp,
bp zQ (a.add l) f #[d] k (λd f=>aM f i/\
∀i:Hp,
bp zQ (a.add i) e #[j,g,d] f (λa d=>Ld d c λc=>fm (.int .u32) d c b a λb=>rt h a b) xL) xL) xL)
theorem nD:qF L172 172:=λh=>sd (hN 3 (zB (zE 1 [] [] (hr 0 [1] 0 5 (hr 0 [1] 6 3 (zE 0 [5] [1] (hr 0 [1] 9 3 .e))))))) func172 h
def L173:Y2:=λa b c d e=>lE c (iv 10) λf=>Br f (lL b (wi 100) λf=>Br f (bj .i64 b λf=>CR e a 215 #[f] d λf g=>rt e f g) (lW d #[(bi 0),(bi 0),(bi 0),(bi 0),(bi 0),(bi 0),(bi 0),(bi 0),(bi 0),(bi 0),(bi 0),(bi 0),(bi 0),(bi 0),(bi 0),(bi 0),(bi 0),(bi 0),(bi 0),(bi 0),(bi 0),(bi 0),(bi 0),(bi 0)] 297 λf g=>CR e a 216 #[b] g λg h=>br zQ a (e6 Tryz.f173 6 1) (ev (λi=>cond (Nat.beq i 5) (pt f) (cond (Nat.beq i 18) g (undef)))) h λj=>CR e a 217 #[j,b] h λ_ h=>br zQ a (e6 Tryz.f173 7 1) (ev (λi=>cond (Nat.beq i 5) (pt f) (cond (Nat.beq i 22) g (undef)))) h λf=>dH h f λf=>rt e f h)) (CR e a 218 #[sZ,b,c,vF,vF] d λa b=>lX a λ_ a=>rt e a b)
theorem tJ:qC L173 173:=λh=>sd .e func173 h
def L179:Y2:=λa b c d e=>lE c (iv 10) λf=>Br f (oQ i0 b λf=>lU f (λf=>lL b (iv 100) λg=>(lV d g f)) λf=>Br (Value.bool f) (CR e a 215 #[b] d λf g=>rt e f g) (lW d #[(bi 0),(bi 0),(bi 0),(bi 0),(bi 0),(bi 0),(bi 0),(bi 0),(bi 0),(bi 0),(bi 0),(bi 0),(bi 0),(bi 0),(bi 0),(bi 0),(bi 0),(bi 0),(bi 0),(bi 0),(bi 0),(bi 0),(bi 0),(bi 0)] 297 λf g=>bj .u64 b λh=>jB (λi j=>CR e a 216 #[i] j λj k=>lA i1 j λl=>br zQ a (e6 Tryz.f179 9 2) (ev (λm=>cond (Nat.beq m 5) (pt f) (cond (Nat.beq m 29) l (undef)))) k λl=>CR e a 217 #[l,i] k λ_ i=>lL b i0 λk=>Br k (di 24 1 (pt f) i0 λk=>St 1 i k (bi 45) λk=>lA i1 j λl=>br zQ a (e6 Tryz.f179 12 2) (ev (λm=>cond (Nat.beq m 5) (pt f) (cond (Nat.beq m 37) l (undef)))) k λl=>dH k l λl=>rt e l k) (lA i1 j λj=>br zQ a (e6 Tryz.f179 13 2) (ev (λm=>cond (Nat.beq m 5) (pt f) (cond (Nat.beq m 41) j (undef)))) i λf=>dH i f λf=>rt e f i)) λf=>lL b i0 λi=>Br i (Un .neg h λi=>JE f [i] g) (JE f [h] g))) (bj .u64 b λf=>lL b i0 λb=>CR e a 218 #[sZ,f,c,b,vF] d λa b=>lX a λ_ a=>rt e a b)
theorem tI:qC L179 179:=λh=>sd (zA (zB (zA (zB (.n (zB (zF 0 [] [1])) (zA (zA (zF 1 [6] [0,5])))))))) func179 h
variable {g:Gh} {a0 a1 a2 a3 a4 a5 a6 a7 a8 a9 GC GB Jx Jw Jv Ju:zV} {H:Hp} {R:Rt}
def L187:Y2:=λa b c d e=>DR d λf=>lM 0 b f λg=>lM 0 b f λb=>CN a 146 #[g] d λd g=>aM g f/\
lA d c λc=>CN a 230 #[b] g λa b=>aM b f/\
oQ c a λa=>rt e a b
theorem tH:qC L187 187:=λh=>sd (zA (zB (zF 0 [0,1,2,3,5,7,8,9,10,4,6,11,12,13] []))) func187 h
def L190:Y2:=λ_ a b c d=>lG b (ui 1) λe=>Br e (lM 2 a c λa=>lI 1 a b c λe=>lA e (Value.int .i32 1) λe=>ai 1 a b λa=>St 1 c a e λa=>rt d (.tuple #[]) a) (rt d (.tuple #[]) c)
theorem tG:qC L190 190:=λh=>sd .e func190 h
def L192:Y3:=λa b c d e f=>lK e c 201 λc e=>lD 0 (pt c) e λg=>CR f a 213 #[b,g] e λa e=>lN a i0 λg=>Br g (rt f a e) (lM 0 b e λa=>lD 0 (pt c) e λg=>lI 1 a g e λa=>az 3 e (pt c) λg=>gx zQ 201 (ui 0) true e a g λa=>lX a λ_ a=>Br a (rt f (iv 11) e) (DR e λa=>lM 0 b a λb=>lD 0 (pt c) a λg=>lI 1 b g a λb=>az 3 a (pt c) λa=>gm zQ 201 e b a d λa=>rt f i0 a))
theorem tF:qD L192 192:=λh=>sd (hN 3 (zB (zF 0 (yR 11) []))) func192 h
def L202:Y4:=λa b c d e f g=>CR g a 171 #[b,c] f λf h=>Un .not f λf=>Br f (rt g (iv 2) h) (jB (λf i=>Br f (rt g (iv 3) i) (jB (λf j=>Br f (rt g (iv 4) j) (rt g i0 j)) λf=>DR i λj=>lN d e λk=>Br k (lM 6 b j λk=>lI 1 k c j λc=>∀k:Hp,
CN (a.add k) 253 #[b,d] i λk l=>aM l j/\
∀m:Hp,
CN (a.add m) 253 #[b,e] l λl m=>aM m j/\
xM k l λj=>oG c j λc=>bX vT c vF λc=>JE f [c] m) (JE f [vF] i))) λc=>lC 0 b λf=>CR g a 169 #[f,d] h λd f=>Un .not d λd=>Split d false (lC 0 b λb=>CR g a 169 #[b,e] f λa b=>Un .not a λa=>bX vF vT a λa=>JE c [a] b) (bX vT vT undef λa=>JE c [a] f))
theorem tE:qE L202 202:=λh=>sd (zA (zB (zB (zA (zA (.h 1 [14] [0,1,2,3] .e (zA (zE 1 [29] [] (zE 1 [] [] (hr 0 [] 0 3 (.h 2 [3] [] (hr 0 [] 4 9 (hr 0 [] 14 2 (zE 0 [13] [] (hr 0 [] 16 5 .e)))) (hr 0 [] 4 15 (hr 3 [] 19 2 .e))))))))))))) func202 h
def L203:Y4:=λa b c d e f g=>lE d e λh=>Br h (rt g (tP d vT) f) (lC 0 b λb=>ag 1 b λb=>Ld f b λb=>Build zQ 201 [(0,c),(1,d),(2,e)] λc=>CR g a 231 #[b,c] f λa b=>lX a λa c=>rt g (tP a c) b)
theorem tD:qE L203 203:=λh=>sd .e func203 h
def L204:Y2:=λa b c d e=>lK d c 201 λc d=>DR d λf=>lM 0 b f λg=>az 3 f (pt c) λh=>CN a 254 #[g,h] d λd g=>aM g f/\
lX d λd _=>∃(f:Jt) (h:Mt),JE f [] g/\∀g:Hp,f [] g->∀_:Fr,
bj .i64 d λi=>lM 2 b g λj=>bY j λj=>oG i j λi=>Br i (lM 2 b g λi=>ak zQ 117 1 [(0,(Value.int .i32 0))] g λj k=>App zQ 21 1 4 (Value.int .i32 0) k i j λi j=>lC 2 b λk=>St 1 j k i λi=>lM 3 b i λj=>ak zQ 117 1 [(0,(Value.int .i32 0))] i λi k=>App zQ 21 1 4 (Value.int .i32 0) k j i λi j=>lC 3 b λk=>St 1 j k i λi=>aR f h [] i [] g) (DR g λf=>lM 2 b f λh=>lM 3 b f λf=>ai 1 h d λh=>St 1 g h (Value.int .i32 0) λg=>ai 1 f d λf=>St 1 g f (Value.int .i32 0) λf=>lD 1 (pt c) f λg=>CR e a 190 #[b,g] f λ_ f=>lD 2 (pt c) f λg=>CR e a 190 #[b,g] f λ_ f=>DR f λg=>lM 1 b g λb=>az 3 g (pt c) λc=>CN a 192 #[b,c,d] f λ_ a=>rt e d a)
theorem tC:qC L204 204:=λh=>sd (zA (.n (zF 0 (yR 11) []) (.n (zB (zF 0 [] [0,3,5])) (.n (zF 0 (yR 14) []) (zA (zA (zB (zF 0 (yR 7) [])))))))) func204 h
def L205:Y3:=λa b c d e f=>Ld e b λb=>Ld e c λg=>Ld e d λh=>CR f a 206 #[b,g,h] e λa b=>lX a λa e=>St 1 b c a λa=>St 1 a d e λa=>rt f (.tuple #[]) a
theorem rU(h:L205 g a0 a1 a2 H R):ik zQ g 205 #[a0,a1,a2] H R:=
 ze (hn:=.e) func205 h zK
def L206:Y3:=λa b c d e f=>lE c (ui 0) λg=>lO g (λg=>lE c (ui 1) λh=>(lV e h g)) λg=>lM 2 b e λh=>bY h λi=>yB [(Value.bool g),i0] e λe g j k l=>lL k i λi=>Br i (jB (λi m=>lA k i1 λn=>aR e g [i,n] m [j,k] l) λe=>lI 1 h k l λg=>lE g c λh=>lU h (λh=>Un .not j λi=>(lV l i h)) λh=>lU (Value.bool h) (λh=>lE d i0 λi=>(lV l i h)) λh=>Br (Value.bool h) (JE e [vT] l) (lM 0 b l λh=>CR f a 102 #[h,g] l λ_ g=>JE e [j] g)) (lC 2 b λe=>St 1 l e sZ λe=>jA (λg=>rt f (tP c i0) g) λg=>lN d i0 λh=>Br h (rt f (tP (ui 0) d) e) (Un .not j λd=>Br d (rt f (tP (ui 0) (iv 8)) e) (lE c (ui 0) λd=>lO d (λd=>lE c (ui 1) λh=>(lV e h d)) λd=>Br (Value.bool d) (lM 0 b e λb=>CR f a 157 #[b,c] e λ_ a=>JE g [] a) (JE g [] e))))
theorem tB:qD L206 206:=λh=>sd (zA (.n (zF 0 [] [1]) (.n (zA (zB (zE 0 [8,22] [0,1,2,20,21] (zA (zA (zE 1 [8] [0,1,2,20,21,22] (zB (zA (zB (zB (zF 0 [] [1]))))))))))) (zA (zE 1 [] [1] (zB (hN 4 (zB (zF 0 [] [1]))))))))) func206 h
def L207:Y5:=λa b c d e f g h=>lK g b 237 λb g=>Ld g c λi=>az 3 g (pt b) λj=>gx zQ 237 (ui 0) true g i j λi=>lX i λi j=>Br j (rt h (tP i i0) g) (Ld g d λi=>az 3 g (pt b) λj=>CR h a 208 #[i,j] g λg i=>Ld i d λj=>CR h a 209 #[j,g] i λi j=>lL i i0 λk=>Br k (Ld j e λe=>di 3 1 (pt b) i0 λk=>Ld j k λk=>lE k (ui 1) λk=>di 3 1 (pt b) i1 λl=>Ld j l λl=>lE l (ui 1) λl=>di 3 1 (pt b) (iv 2) λm=>Ld j m λm=>lE m (ui 1) λm=>bp zQ a e #[k,l,m] j (λe k=>Br e (rt h (tP (ui 1) i0) k) (rt h (tP (ui 0) i0) k)) (dj h)) (DR j λe=>az 3 e (pt b) λk=>az 3 e (pt b) λl=>lW j #[(ui 0),(ui 0),(ui 0)] 237 λj m=>lW m #[(ui 0),(ui 0),(ui 0)] 237 λm n=>∀_:Hp,
St 3 n (pt j) k λk=>aM k e/\
∀_:Hp,
St 3 k (pt m) l λe=>bY g λk=>yA [i0] e λe l n o=>lL n k λk=>Br k (jA (λk=>lA n i1 λp=>aR e l [p] k [n] o) λe=>ai 3 g n λg=>az 3 o g λg=>lQ 3 o nC 201 g λg k=>lD 0 (pt g) k λl=>lE l i λl=>Br l (DR k λl=>lD 1 (pt g) l λp=>lD 2 (pt g) l λg=>di 3 1 (pt j) n λq=>St 1 k q p λp=>aM p l/\
di 3 1 (pt m) n λl=>St 1 p l g λg=>JE e [] g) (JE e [] k)) (Ld o f λe=>az 3 o (pt j) λg=>bp zQ a e #[g] o (λe g=>lX e λe j=>lN j i0 λk=>Br k (rt h (tP (ui 0) j) g) (Ld g f λf=>az 3 g (pt m) λj=>bp zQ a f #[j] g (λf g=>lX f λf j=>lN j i0 λk=>Br k (rt h (tP (ui 0) j) g) (Ld g d λd=>CR h a 210 #[d,i,e,f] g λa d=>lX a λa e=>jA (λf=>rt h (tP a e) f) λf=>lE e i0 λe=>Br e (Ld d c λc=>az 3 d (pt b) λb=>gm zQ 237 d c b a λa=>JE f [] a) (JE f [] d))) (dj h))) (dj h))))
theorem nB:qF L207 207:=λh=>sd (hN 5 (.n (zE 1 [] [] (hr 0 [] 0 2 (hr 1 [] 2 2 (hr 0 [] 2 4 .e)))) (.n (zA (zB (zE 0 [51] [1,2,4,5,11,12,13,49,50] (zA (zA (zE 1 [] [1,2,4,5,11,12,13,49,50,51] (zB (zA (zA (zB (zF 0 (yR 10) []))))))))))) (hN 5 (zF 1 [] [17,19]))))) func207 h
def L208:Y2:=λa b c d e=>lK d c 237 λc d=>az 3 d (pt c) λc=>yB [sZ,i0] d λd f g h i=>lL h (iv 3) λj=>Br j (br zQ a (e6 Tryz.f208 4 0) (ev (λj=>cond (Nat.beq j 10) c (cond (Nat.beq j 11) h (undef)))) i λc=>lM 0 b i λb=>CR e a 133 #[b,c] i λa b=>lX a λa _=>lQ 3 b nC 201 a λa b=>az 3 b (pt a) λa=>ak zQ 293 1 [(0,a)] b λa b=>App zQ 201 3 16 (.agg nC) b g a λa b=>lA h i1 λc=>aR d f [a,c] b [g,h] i) (rt e g i)
theorem tA:qC L208 208:=λh=>sd (zA (zA (zB (zA (zB (zF 0 [5,11] [0,10])))))) func208 h
def L209:Y2:=λ_ a b c d=>bY b λe=>yB [(iv (-1)),i0] c λc f g h i=>lL h e λe=>Br e (jB (λe j=>lA h i1 λk=>aR c f [e,k] j [g,h] i) λc=>ai 3 b h λb=>az 3 i b λb=>lQ 3 i nC 201 b λb e=>lD 0 (pt b) e λf=>oG f i0 λf=>lU f (λf=>lL g i0 λh=>bL h false (λh=>lM 1 a e λj=>lD 0 (pt b) e λk=>lI 1 j k e λj=>lM 1 a e λa=>lI 1 a g e λa=>lL j a λa=>(lV e a h)) (λh=>vT=Value.bool h) λh=>∀_:Fr,
(lV e (Value.bool h) f)) λf=>Br (Value.bool f) (lD 0 (pt b) e λa=>JE c [a] e) (JE c [g] e)) (rt d g i)
theorem tx:qC L209 209:=λh=>sd (zA (zA (zB (zA (zB (zE 0 [5,10] [0,8,9] (zA (zA (zF 1 [5] [0,8,9,10]))))))))) func209 h
def L210:Y4:=λa b c d e f g=>lE d e λh=>Br h (rt g (tP d i0) f) (lM 0 b f λh=>CR g a 158 #[h,c,d,e] f λf h=>lX f λf i=>jA (λj=>rt g (tP (ui 0) i) j) λj=>lE i i0 λk=>Br k (lM 2 b h λk=>ak zQ 189 1 [(0,f)] h λl m=>App zQ 82 1 4 (ui 0) m k l λk l=>lC 2 b λm=>St 1 l m k λk=>rt g (tP f i0) k) (lE i (iv 8) λf=>Br f (lM 0 b h λb=>CR g a 255 #[b,c,d,e] h λa b=>lX a λa c=>Br c (rt g (tP a i0) b) (JE j [] b)) (JE j [] h)))
theorem nA:qE L210 210:=λh=>sd (hN 3 (zF 1 [] [11])) func210 h
def L211:Y5:=λa b c d e f g h=>CR h a 137 #[b] g λg i=>lO g (λg=>Ld i c λj=>gp (.int .u32) i0 false i j b λj=>lG j i0 λj=>(lV i j g)) λg=>Br (Value.bool g) (rt h (.tuple #[]) i) (Ld i c λc=>fm (.int .u32) i c b i1 λc=>Ld c d λd=>CR h a 138 #[d,b] c λb c=>lQ 3 c nC 201 b λb c=>Ld c e λd=>az 3 c (pt b) λe=>bp zQ a d #[e] c (λ_ c=>Ld c f λd=>lD 1 (pt b) c λe=>bp zQ a d #[e] c (λ_ c=>Ld c f λd=>lD 2 (pt b) c λb=>bp zQ a d #[b] c (λ_ a=>rt h (.tuple #[]) a) (dj h)) (dj h)) (dj h))
theorem ny:qF L211 211:=λh=>sd (zB (zB (zF 0 [] [1]))) func211 h
def L212:Y2:=λa b c d e=>lW d nC 201 λd f=>oP b λg=>Br g (Build zQ 201 [] λg=>St 3 f (pt d) g λg=>az 3 g (pt d) λh=>rt e (tP h (iv 10)) g) (CR e a 256 #[b,c] f λa f=>Un .not a λa=>Br a (Build zQ 201 [] λa=>St 3 f (pt d) a λa=>az 3 a (pt d) λg=>rt e (tP g (iv 3)) a) (lM 1 b f λa=>ai 5 a c λa=>ag 0 a λa=>az 3 f a λa=>St 3 f (pt d) a λa=>az 3 a (pt d) λb=>rt e (tP b i0) a))
theorem tw:qC L212 212:=λh=>sd .e func212 h
def L213:Y2:=λ_ a b c d=>oP a λe=>Br e (rt d (iv 10) c) (lL b i0 λe=>lO e (λe=>lM 0 a c λa=>bY a λa=>oG b a λa=>(lV c a e)) λe=>Br (Value.bool e) (rt d (iv 2) c) (rt d i0 c))
theorem tu:qC L213 213:=λh=>sd (zA (zB (zB (zA (zA (zB (zF 0 [] [1]))))))) func213 h
def L214:Y2:=λa b c d e=>jB (λf g=>Br f (rt e (iv 3) g) (rt e i0 g)) λf=>oQ c (ui 1) λg=>Split g false (CR e a 256 #[b,c] d λa b=>Un .not a λa=>bX vF vT a λa=>JE f [a] b) (bX vT vT undef λa=>JE f [a] d)
theorem tt:qC L214 214:=λh=>sd (zA (zB (zF 1 [12] []))) func214 h
def L215:Y1:=λa b c d=>lL b (iv 10) λe=>Br e (lA b i1 λe=>br zQ a (e6 Tryz.f215 2 3) (ev (λf=>cond (Nat.beq f 5) b (cond (Nat.beq f 7) e (undef)))) c λe=>rt d e c) (oM b (iv 2) λe=>oM b (iv 2) λb=>lA b (iv 2) λb=>br zQ a (e6 Tryz.f215 3 5) (ev (λf=>cond (Nat.beq f 10) e (cond (Nat.beq f 13) b (undef)))) c λa=>rt d a c)
theorem nx:qB L215 215:=λh=>sd .e func215 h
def L216:Y1:=λa b c d=>CR d a 252 #[b] c λc e=>CR d a 257 #[c] e λc e=>di 20 1 (.pointer (some ⟨1,0,none⟩)) c λf=>Ld e f λf=>oG b f λb=>CR d a 258 #[b] e λa b=>lA c a λa=>rt d a b
theorem tq:qB L216 216:=λh=>sd .e func216 h
def L217:Y2:=λ_ a b c d=>bY a λe=>yB [b,e] c λb c e f g=>oG f (iv 8) λh=>Br h (ae .num .rem e (wi 100000000) λh=>bj .u32 h λh=>ae .num .quo e (wi 100000000) λi=>ae .num .quo h (ui 10000) λj=>ae .num .rem h (ui 10000) λh=>ae .num .quo h (ui 100) λk=>oM k (ui 2) λk=>ae .num .rem h (ui 100) λh=>oM h (ui 2) λh=>ae .num .quo j (ui 100) λl=>oM l (ui 2) λl=>ae .num .rem j (ui 100) λj=>oM j (ui 2) λj=>DR g λm=>lS f i1 λn=>lS f (iv 2) λo=>lA h (ui 1) λp=>aV (.string (ByteArray.mk #[48,48,48,49,48,50,48,51,48,52,48,53,48,54,48,55,48,56,48,57,49,48,49,49,49,50,49,51,49,52,49,53,49,54,49,55,49,56,49,57,50,48,50,49,50,50,50,51,50,52,50,53,50,54,50,55,50,56,50,57,51,48,51,49,51,50,51,51,51,52,51,53,51,54,51,55,51,56,51,57,52,48,52,49,52,50,52,51,52,52,52,53,52,54,52,55,52,56,52,57,53,48,53,49,53,50,53,51,53,52,53,53,53,54,53,55,53,56,53,57,54,48,54,49,54,50,54,51,54,52,54,53,54,54,54,55,54,56,54,57,55,48,55,49,55,50,55,51,55,52,55,53,55,54,55,55,55,56,55,57,56,48,56,49,56,50,56,51,56,52,56,53,56,54,56,55,56,56,56,57,57,48,57,49,57,50,57,51,57,52,57,53,57,54,57,55,57,56,57,57])) p λp=>aV (.string (ByteArray.mk #[48,48,48,49,48,50,48,51,48,52,48,53,48,54,48,55,48,56,48,57,49,48,49,49,49,50,49,51,49,52,49,53,49,54,49,55,49,56,49,57,50,48,50,49,50,50,50,51,50,52,50,53,50,54,50,55,50,56,50,57,51,48,51,49,51,50,51,51,51,52,51,53,51,54,51,55,51,56,51,57,52,48,52,49,52,50,52,51,52,52,52,53,52,54,52,55,52,56,52,57,53,48,53,49,53,50,53,51,53,52,53,53,53,54,53,55,53,56,53,57,54,48,54,49,54,50,54,51,54,52,54,53,54,54,54,55,54,56,54,57,55,48,55,49,55,50,55,51,55,52,55,53,55,54,55,55,55,56,55,57,56,48,56,49,56,50,56,51,56,52,56,53,56,54,56,55,56,56,56,57,57,48,57,49,57,50,57,51,57,52,57,53,57,54,57,55,57,56,57,57])) h λh=>ai 1 a n λn=>St 1 g n p λn=>aM n m/\
ai 1 a o λm=>St 1 n m h λh=>DR h λm=>lS f (iv 3) λn=>lS f (iv 4) λo=>lA k (ui 1) λp=>aV (.string (ByteArray.mk #[48,48,48,49,48,50,48,51,48,52,48,53,48,54,48,55,48,56,48,57,49,48,49,49,49,50,49,51,49,52,49,53,49,54,49,55,49,56,49,57,50,48,50,49,50,50,50,51,50,52,50,53,50,54,50,55,50,56,50,57,51,48,51,49,51,50,51,51,51,52,51,53,51,54,51,55,51,56,51,57,52,48,52,49,52,50,52,51,52,52,52,53,52,54,52,55,52,56,52,57,53,48,53,49,53,50,53,51,53,52,53,53,53,54,53,55,53,56,53,57,54,48,54,49,54,50,54,51,54,52,54,53,54,54,54,55,54,56,54,57,55,48,55,49,55,50,55,51,55,52,55,53,55,54,55,55,55,56,55,57,56,48,56,49,56,50,56,51,56,52,56,53,56,54,56,55,56,56,56,57,57,48,57,49,57,50,57,51,57,52,57,53,57,54,57,55,57,56,57,57])) p λp=>aV (.string (ByteArray.mk #[48,48,48,49,48,50,48,51,48,52,48,53,48,54,48,55,48,56,48,57,49,48,49,49,49,50,49,51,49,52,49,53,49,54,49,55,49,56,49,57,50,48,50,49,50,50,50,51,50,52,50,53,50,54,50,55,50,56,50,57,51,48,51,49,51,50,51,51,51,52,51,53,51,54,51,55,51,56,51,57,52,48,52,49,52,50,52,51,52,52,52,53,52,54,52,55,52,56,52,57,53,48,53,49,53,50,53,51,53,52,53,53,53,54,53,55,53,56,53,57,54,48,54,49,54,50,54,51,54,52,54,53,54,54,54,55,54,56,54,57,55,48,55,49,55,50,55,51,55,52,55,53,55,54,55,55,55,56,55,57,56,48,56,49,56,50,56,51,56,52,56,53,56,54,56,55,56,56,56,57,57,48,57,49,57,50,57,51,57,52,57,53,57,54,57,55,57,56,57,57])) k λk=>ai 1 a n λn=>St 1 h n p λh=>aM h m/\
ai 1 a o λm=>St 1 h m k λh=>DR h λk=>lS f (iv 5) λm=>lS f (iv 6) λn=>lA j (ui 1) λo=>aV (.string (ByteArray.mk #[48,48,48,49,48,50,48,51,48,52,48,53,48,54,48,55,48,56,48,57,49,48,49,49,49,50,49,51,49,52,49,53,49,54,49,55,49,56,49,57,50,48,50,49,50,50,50,51,50,52,50,53,50,54,50,55,50,56,50,57,51,48,51,49,51,50,51,51,51,52,51,53,51,54,51,55,51,56,51,57,52,48,52,49,52,50,52,51,52,52,52,53,52,54,52,55,52,56,52,57,53,48,53,49,53,50,53,51,53,52,53,53,53,54,53,55,53,56,53,57,54,48,54,49,54,50,54,51,54,52,54,53,54,54,54,55,54,56,54,57,55,48,55,49,55,50,55,51,55,52,55,53,55,54,55,55,55,56,55,57,56,48,56,49,56,50,56,51,56,52,56,53,56,54,56,55,56,56,56,57,57,48,57,49,57,50,57,51,57,52,57,53,57,54,57,55,57,56,57,57])) o λo=>aV (.string (ByteArray.mk #[48,48,48,49,48,50,48,51,48,52,48,53,48,54,48,55,48,56,48,57,49,48,49,49,49,50,49,51,49,52,49,53,49,54,49,55,49,56,49,57,50,48,50,49,50,50,50,51,50,52,50,53,50,54,50,55,50,56,50,57,51,48,51,49,51,50,51,51,51,52,51,53,51,54,51,55,51,56,51,57,52,48,52,49,52,50,52,51,52,52,52,53,52,54,52,55,52,56,52,57,53,48,53,49,53,50,53,51,53,52,53,53,53,54,53,55,53,56,53,57,54,48,54,49,54,50,54,51,54,52,54,53,54,54,54,55,54,56,54,57,55,48,55,49,55,50,55,51,55,52,55,53,55,54,55,55,55,56,55,57,56,48,56,49,56,50,56,51,56,52,56,53,56,54,56,55,56,56,56,57,57,48,57,49,57,50,57,51,57,52,57,53,57,54,57,55,57,56,57,57])) j λj=>ai 1 a m λm=>St 1 h m o λh=>aM h k/\
ai 1 a n λk=>St 1 h k j λh=>DR h λj=>lS f (iv 7) λk=>lS f (iv 8) λm=>lA l (ui 1) λn=>aV (.string (ByteArray.mk #[48,48,48,49,48,50,48,51,48,52,48,53,48,54,48,55,48,56,48,57,49,48,49,49,49,50,49,51,49,52,49,53,49,54,49,55,49,56,49,57,50,48,50,49,50,50,50,51,50,52,50,53,50,54,50,55,50,56,50,57,51,48,51,49,51,50,51,51,51,52,51,53,51,54,51,55,51,56,51,57,52,48,52,49,52,50,52,51,52,52,52,53,52,54,52,55,52,56,52,57,53,48,53,49,53,50,53,51,53,52,53,53,53,54,53,55,53,56,53,57,54,48,54,49,54,50,54,51,54,52,54,53,54,54,54,55,54,56,54,57,55,48,55,49,55,50,55,51,55,52,55,53,55,54,55,55,55,56,55,57,56,48,56,49,56,50,56,51,56,52,56,53,56,54,56,55,56,56,56,57,57,48,57,49,57,50,57,51,57,52,57,53,57,54,57,55,57,56,57,57])) n λn=>aV (.string (ByteArray.mk #[48,48,48,49,48,50,48,51,48,52,48,53,48,54,48,55,48,56,48,57,49,48,49,49,49,50,49,51,49,52,49,53,49,54,49,55,49,56,49,57,50,48,50,49,50,50,50,51,50,52,50,53,50,54,50,55,50,56,50,57,51,48,51,49,51,50,51,51,51,52,51,53,51,54,51,55,51,56,51,57,52,48,52,49,52,50,52,51,52,52,52,53,52,54,52,55,52,56,52,57,53,48,53,49,53,50,53,51,53,52,53,53,53,54,53,55,53,56,53,57,54,48,54,49,54,50,54,51,54,52,54,53,54,54,54,55,54,56,54,57,55,48,55,49,55,50,55,51,55,52,55,53,55,54,55,55,55,56,55,57,56,48,56,49,56,50,56,51,56,52,56,53,56,54,56,55,56,56,56,57,57,48,57,49,57,50,57,51,57,52,57,53,57,54,57,55,57,56,57,57])) l λl=>ai 1 a k λk=>St 1 h k n λh=>aM h j/\
ai 1 a m λj=>St 1 h j l λh=>lS f (iv 8) λj=>aR b c [i,j] h [e,f] g) (bj .u32 e λb=>jC (λc e h=>jC (λi j k=>lG i i0 λi=>Br i (lA (ui 48) j λi=>bj .u8 i λi=>ai 1 a i0 λj=>St 1 k j i λi=>rt d (.tuple #[]) i) (rt d (.tuple #[]) k)) λd=>oG c (iv 2) λi=>Br i (ae .num .rem e (ui 100) λi=>oM i (ui 2) λi=>ae .num .quo e (ui 100) λj=>DR h λk=>lS c i1 λl=>lS c (iv 2) λm=>lA i (ui 1) λn=>aV (.string (ByteArray.mk #[48,48,48,49,48,50,48,51,48,52,48,53,48,54,48,55,48,56,48,57,49,48,49,49,49,50,49,51,49,52,49,53,49,54,49,55,49,56,49,57,50,48,50,49,50,50,50,51,50,52,50,53,50,54,50,55,50,56,50,57,51,48,51,49,51,50,51,51,51,52,51,53,51,54,51,55,51,56,51,57,52,48,52,49,52,50,52,51,52,52,52,53,52,54,52,55,52,56,52,57,53,48,53,49,53,50,53,51,53,52,53,53,53,54,53,55,53,56,53,57,54,48,54,49,54,50,54,51,54,52,54,53,54,54,54,55,54,56,54,57,55,48,55,49,55,50,55,51,55,52,55,53,55,54,55,55,55,56,55,57,56,48,56,49,56,50,56,51,56,52,56,53,56,54,56,55,56,56,56,57,57,48,57,49,57,50,57,51,57,52,57,53,57,54,57,55,57,56,57,57])) n λn=>aV (.string (ByteArray.mk #[48,48,48,49,48,50,48,51,48,52,48,53,48,54,48,55,48,56,48,57,49,48,49,49,49,50,49,51,49,52,49,53,49,54,49,55,49,56,49,57,50,48,50,49,50,50,50,51,50,52,50,53,50,54,50,55,50,56,50,57,51,48,51,49,51,50,51,51,51,52,51,53,51,54,51,55,51,56,51,57,52,48,52,49,52,50,52,51,52,52,52,53,52,54,52,55,52,56,52,57,53,48,53,49,53,50,53,51,53,52,53,53,53,54,53,55,53,56,53,57,54,48,54,49,54,50,54,51,54,52,54,53,54,54,54,55,54,56,54,57,55,48,55,49,55,50,55,51,55,52,55,53,55,54,55,55,55,56,55,57,56,48,56,49,56,50,56,51,56,52,56,53,56,54,56,55,56,56,56,57,57,48,57,49,57,50,57,51,57,52,57,53,57,54,57,55,57,56,57,57])) i λi=>ai 1 a l λl=>St 1 h l n λl=>aM l k/\
ai 1 a m λk=>St 1 l k i λi=>lS c (iv 2) λk=>JE d [k,j] i) (JE d [c,e] h)) λc=>oG f (iv 4) λd=>Br d (ae .num .rem b (ui 10000) λd=>ae .num .quo b (ui 10000) λe=>ae .num .quo d (ui 100) λh=>oM h (ui 2) λh=>ae .num .rem d (ui 100) λd=>oM d (ui 2) λd=>DR g λi=>lS f i1 λj=>lS f (iv 2) λk=>lA d (ui 1) λl=>aV (.string (ByteArray.mk #[48,48,48,49,48,50,48,51,48,52,48,53,48,54,48,55,48,56,48,57,49,48,49,49,49,50,49,51,49,52,49,53,49,54,49,55,49,56,49,57,50,48,50,49,50,50,50,51,50,52,50,53,50,54,50,55,50,56,50,57,51,48,51,49,51,50,51,51,51,52,51,53,51,54,51,55,51,56,51,57,52,48,52,49,52,50,52,51,52,52,52,53,52,54,52,55,52,56,52,57,53,48,53,49,53,50,53,51,53,52,53,53,53,54,53,55,53,56,53,57,54,48,54,49,54,50,54,51,54,52,54,53,54,54,54,55,54,56,54,57,55,48,55,49,55,50,55,51,55,52,55,53,55,54,55,55,55,56,55,57,56,48,56,49,56,50,56,51,56,52,56,53,56,54,56,55,56,56,56,57,57,48,57,49,57,50,57,51,57,52,57,53,57,54,57,55,57,56,57,57])) l λl=>aV (.string (ByteArray.mk #[48,48,48,49,48,50,48,51,48,52,48,53,48,54,48,55,48,56,48,57,49,48,49,49,49,50,49,51,49,52,49,53,49,54,49,55,49,56,49,57,50,48,50,49,50,50,50,51,50,52,50,53,50,54,50,55,50,56,50,57,51,48,51,49,51,50,51,51,51,52,51,53,51,54,51,55,51,56,51,57,52,48,52,49,52,50,52,51,52,52,52,53,52,54,52,55,52,56,52,57,53,48,53,49,53,50,53,51,53,52,53,53,53,54,53,55,53,56,53,57,54,48,54,49,54,50,54,51,54,52,54,53,54,54,54,55,54,56,54,57,55,48,55,49,55,50,55,51,55,52,55,53,55,54,55,55,55,56,55,57,56,48,56,49,56,50,56,51,56,52,56,53,56,54,56,55,56,56,56,57,57,48,57,49,57,50,57,51,57,52,57,53,57,54,57,55,57,56,57,57])) d λd=>ai 1 a j λj=>St 1 g j l λj=>aM j i/\
ai 1 a k λi=>St 1 j i d λd=>DR d λi=>lS f (iv 3) λj=>lS f (iv 4) λk=>lA h (ui 1) λl=>aV (.string (ByteArray.mk #[48,48,48,49,48,50,48,51,48,52,48,53,48,54,48,55,48,56,48,57,49,48,49,49,49,50,49,51,49,52,49,53,49,54,49,55,49,56,49,57,50,48,50,49,50,50,50,51,50,52,50,53,50,54,50,55,50,56,50,57,51,48,51,49,51,50,51,51,51,52,51,53,51,54,51,55,51,56,51,57,52,48,52,49,52,50,52,51,52,52,52,53,52,54,52,55,52,56,52,57,53,48,53,49,53,50,53,51,53,52,53,53,53,54,53,55,53,56,53,57,54,48,54,49,54,50,54,51,54,52,54,53,54,54,54,55,54,56,54,57,55,48,55,49,55,50,55,51,55,52,55,53,55,54,55,55,55,56,55,57,56,48,56,49,56,50,56,51,56,52,56,53,56,54,56,55,56,56,56,57,57,48,57,49,57,50,57,51,57,52,57,53,57,54,57,55,57,56,57,57])) l λl=>aV (.string (ByteArray.mk #[48,48,48,49,48,50,48,51,48,52,48,53,48,54,48,55,48,56,48,57,49,48,49,49,49,50,49,51,49,52,49,53,49,54,49,55,49,56,49,57,50,48,50,49,50,50,50,51,50,52,50,53,50,54,50,55,50,56,50,57,51,48,51,49,51,50,51,51,51,52,51,53,51,54,51,55,51,56,51,57,52,48,52,49,52,50,52,51,52,52,52,53,52,54,52,55,52,56,52,57,53,48,53,49,53,50,53,51,53,52,53,53,53,54,53,55,53,56,53,57,54,48,54,49,54,50,54,51,54,52,54,53,54,54,54,55,54,56,54,57,55,48,55,49,55,50,55,51,55,52,55,53,55,54,55,55,55,56,55,57,56,48,56,49,56,50,56,51,56,52,56,53,56,54,56,55,56,56,56,57,57,48,57,49,57,50,57,51,57,52,57,53,57,54,57,55,57,56,57,57])) h λh=>ai 1 a j λj=>St 1 d j l λd=>aM d i/\
ai 1 a k λa=>St 1 d a h λa=>lS f (iv 4) λd=>JE c [d,e] a) (JE c [f,b] g))
theorem nw:qC L217 217:=λh=>sd (zA (.n (zB (zE 0 [1,4] [0] (zA (zB (hN 5 (.n (zF 0 (yR 15) []) (.n (zF 0 (yR 15) []) (.n (zF 0 (yR 15) []) (zB (zF 0 (yR 15) [])))))))))) (zA (.h 1 [4,12] [0] (zA (zB (hN 3 (.n (zF 0 (yR 15) []) (zB (zF 0 (yR 15) [])))))) (zE 1 [4,12] [0] (zA (zB (zA (zA (zB (zF 0 (yR 15) []))))))))))) func217 h
variable {g:Gh} {a0 a1 a2 a3 a4 a5 a6 a7 a8 a9 GC GB Jx Jw Jv Ju:zV} {H:Hp} {R:Rt}
def L230:Y1:=λ_ a b c=>oP a λd=>Br d (rt c i0 b) (lM 0 a b λa=>rt c a b)
theorem tn:qB L230 230:=λh=>sd .e func230 h
def L231:Y2:=λa b c d e=>lK d c 201 λc d=>lD 0 (pt c) d λf=>CR e a 213 #[b,f] d λa d=>lN a i0 λa=>Br a (rt e (tP (ui 0) vF) d) (lM 0 b d λa=>lD 0 (pt c) d λb=>lI 1 a b d λa=>az 3 d (pt c) λb=>gx zQ 201 (ui 0) true d a b λa=>lX a λa b=>rt e (tP a b) d)
theorem tj:qC L231 231:=λh=>sd .e func231 h
def L232:Y2:=λa b c d e=>lK d c 201 λc d=>lD 0 (pt c) d λf=>lL f i0 λf=>lO f (λf=>lD 0 (pt c) d λg=>oG g (iv 64) λg=>(lV d g f)) λf=>Br (Value.bool f) (rt e (iv 2) d) (jB (λf g=>Br f (rt e (iv 3) g) (rt e i0 g)) λf=>lD 1 (pt c) d λg=>CR e a 256 #[b,g] d λd g=>Un .not d λd=>Split d false (lD 2 (pt c) g λc=>CR e a 256 #[b,c] g λa b=>Un .not a λa=>bX vF vT a λa=>JE f [a] b) (bX vT vT undef λa=>JE f [a] g))
theorem th:qC L232 232:=λh=>sd (zA (zB (zB (.n (zF 0 [] [1]) (zA (zF 1 [14] [])))))) func232 h
def L252:Y1:=λ_ a b c=>jC (λd e f=>jC (λg h i=>jC (λj k l=>bj .u8 j λj=>aV (.string  zX) j λj=>bj .i64 j λj=>lA k j λj=>rt c j l) λc=>oG g (wi 256) λj=>Br j (oR g (wi 8) λj=>lA h (iv 8) λk=>JE c [j,k] i) (JE c [g,h] i)) λc=>oG d (wi 65536) λg=>Br g (oR d (wi 16) λg=>lA e (iv 16) λh=>JE c [g,h] f) (JE c [d,e] f)) λc=>oG a (wi 4294967296) λd=>Br d (oR a (wi 32) λd=>JE c [d,(iv 32)] b) (JE c [a,i0] b)
theorem td:qB L252 252:=λh=>sd (zA (.h 1 [0,2] [] .e (.h 1 [0,2] [] .e (zF 1 [0,2] [])))) func252 h
def L253:Y2:=λa b c d e=>lC 0 b λf=>CR e a 166 #[f,c] d λa c=>lQ 3 c nC 201 a λa c=>lD 0 (pt a) c λd=>oG d i0 λd=>Br d (lM 6 b c λd=>lD 0 (pt a) c λa=>lI 1 d a c λa=>rt e a c) (lM 4 b c λa=>rt e a c)
theorem tc:qC L253 253:=λh=>sd .e func253 h
def L254:Y2:=λa b c d e=>lK d c 201 λc d=>oP b λf=>Br f (rt e (tP (ui 0) (iv 10)) d) (az 3 d (pt c) λf=>CR e a 232 #[b,f] d λa d=>lN a i0 λf=>Br f (rt e (tP (ui 0) a) d) (lM 2 b d λa=>bY a λa=>lG a i0 λf=>Br f (lM 2 b d λf=>lS a i1 λg=>lI 1 f g d λf=>lM 2 b d λg=>lS a i1 λa=>cF 1 g none (some a) λa=>lC 2 b λg=>St 1 d g a λa=>DR a λg=>lM 1 b g λh=>az 3 g (pt c) λg=>Build zQ 203 [(0,g),(1,vT)] λg=>ai 5 h f λh=>St 5 a h g λa=>lM 3 b a λg=>lA g i1 λg=>lC 3 b λh=>St 1 a h g λa=>rt e (tP f i0) a) (lM 1 b d λa=>bY a λa=>lM 0 b d λf=>oG a f λa=>Br a (rt e (tP (ui 0) (iv 9)) d) (DR d λa=>lM 1 b a λf=>az 3 a (pt c) λc=>Build zQ 203 [(0,c),(1,vT)] λc=>ak zQ 197 1 [(0,c)] d λc d=>aM d a/\
App zQ 203 5 24 (.agg #[i0,(ui 0),(ui 0),vF,(bi 0)]) d f c λc d=>aM d a/\
lC 1 b λa=>St 1 d a c λa=>lM 3 b a λc=>lA c i1 λc=>lC 3 b λd=>St 1 a d c λa=>lM 1 b a λb=>bY b λb=>lS b i1 λb=>bj .u32 b λb=>rt e (tP b i0) a))))
theorem s9:qC L254 254:=λh=>sd (hN 3 (.n (zA (zA (zB (zA (zA (zB (zF 0 (yR 9) []))))))) (zA (zB (zF 0 (yR 12) []))))) func254 h
def L255:Y4:=λa b c d e f g=>jB (λh i=>Br h (rt g (tP (ui 0) vF) i) (CR g a 203 #[b,c,d,e] i λh i=>lX h λh j=>rt g (tP h j) i)) λh=>oP b λi=>Split i false (CR g a 202 #[b,c,d,e] f λa b=>lN a i0 λa=>bX vF vT a λa=>JE h [a] b) (bX vT vT undef λa=>JE h [a] f)
theorem s8:qE L255 255:=λh=>sd (zA (zB (zF 1 [19] [0,1,2,3]))) func255 h
def L256:Y2:=λ_ a b c d=>bj .i64 b λe=>lM 1 a c λf=>bY f λf=>lL e f λe=>lU e (λe=>lM 1 a c λa=>ai 5 a b λa=>ag 3 a λa=>Ld c a λa=>(lV c a e)) λe=>rt d (Value.bool e) c
theorem s7:qC L256 256:=λh=>sd (zA (zB (zF 0 [] [1]))) func256 h
def L257:Y1:=λ_ a b c=>oM a (iv 78913) λa=>oR a (wi 18) λa=>rt c a b
theorem s6:qB L257 257:=λh=>sd .e func257 h
def L258:Y1:=λ_ a b c=>Br a (rt c i1 b) (rt c i0 b)
theorem s5:qB L258 258:=λh=>sd .e func258 h
end Go.Proofs
namespace Go.Sx
open Go
section
variable {P:Program} {g:Gh} {H:Hp}
theorem aW{f:FuncId}{args:Array zV}{C:Hp}{Q:zV->Hp->Prop}(h:∀g,aT P g f args C (aZ Q)):Fc P f args C Q:=h
theorem Ld.q{b off:Nat}{c:Array zV}{T:TypeId}{fz:Nat×Nat}{v:zV}{k:zV->Prop}(h:k v)(hm:(b,Obj.cells c T fz)∈H:=by repeat (first|exact List.Mem.head _|apply List.Mem.tail|apply xaa))(hc:c[off]? =some v:=by rfl):Ld H (.pointer (some ⟨b,off,none⟩)) k:=.mk hm hc h
theorem Ld.f{b o off:Nat}{c:Array zV}{T:TypeId}{fz:Nat×Nat}{v:zV}{k:zV->Prop}(h:k v)(hm:(b,Obj.cells c T fz)∈H:=by repeat (first|exact List.Mem.head _|apply List.Mem.tail|apply xaa))(hc:c[o+off]? =some v:=by rfl):ag off (.pointer (some ⟨b,o,none⟩)) λp=>Ld H p k:=.mk (.mk hm hc h)
theorem Ld.n{b o off:Nat}{c:Array zV}{T:TypeId}{fz:Nat×Nat}{v:zV}{k:zV->Prop}(h:k v)(hm:(b,Obj.cells c T fz)∈H:=by repeat (first|exact List.Mem.head _|apply List.Mem.tail|apply xaa))(hc:c[o+off]? =some v:=by rfl):Nil (.pointer (some ⟨b,o,none⟩)) λq=>ag off q λp=>Ld H p k:=.ptr (.mk (.mk hm hc h))
theorem Ld.u{b o off:Nat}{c:Array zV}{T:TypeId}{fz:Nat×Nat}{v:zV}{k:zV->Prop}(hm:(b,Obj.cells c T fz)∈H)(h:k v)(hc:c[o+off]? =some v:=by rfl):ag off (.pointer (some ⟨b,o,none⟩)) λp=>Ld H p k:=.mk (.mk hm hc h)
theorem Ld.v{b o off:Nat}{c:Array zV}{T:TypeId}{fz:Nat×Nat}{v:zV}{k:zV->Prop}(hm:(b,Obj.cells c T fz)∈H)(h:k v)(hc:c[o+off]? =some v:=by rfl):Nil (.pointer (some ⟨b,o,none⟩)) λq=>ag off q λp=>Ld H p k:=.ptr (.mk (.mk hm hc h))
theorem az.q{b n:Nat}{r:List zV}{T:TypeId}{fz:Nat×Nat}{K:zV->Prop}(h:K (.agg r.toArray))(hm:(b,Obj.cells r.toArray T fz)∈H:=by repeat (first|exact List.Mem.head _|apply List.Mem.tail|apply xaa))(hr:r.length=n:=by rfl):az n H (.pointer (some ⟨b,0,none⟩)) K:=.whole hm hr h
theorem St.q{b n:Nat}{c:Array zV}{T:TypeId}{r:List zV}{H':Hp}{K:Hp->Prop}(h:K H')(hu:cm b (.cells c T zZ) (.cells r.toArray T zZ) H H':=by repeat (first|exact cm.head _|apply cm.tail|apply cm.ax))(hs:c.size=n:=by rfl)(hr:r.length=n:=by rfl)(h1:∀v∈r,v.oneCell'=true:=by simp[Value.oneCell']):
  St n H (.pointer (some ⟨b,0,none⟩)) (.agg r.toArray) K:=.whole hu hs hr h1 h
theorem St.p{b n:Nat}{c:Array zV}{T:TypeId}{r:List zV}{H':Hp}{K:Hp->Prop}(h1:∀v∈r,v.oneCell'=true)(h:K H')(hu:cm b (.cells c T zZ) (.cells r.toArray T zZ) H H':=by repeat (first|exact cm.head _|apply cm.tail|apply cm.ax))(hs:c.size=n:=by rfl)(hr:r.length=n:=by rfl):
  St n H (.pointer (some ⟨b,0,none⟩)) (.agg r.toArray) K:=.whole hu hs hr h1 h
section
variable {kd qU:IntKind} {a b:Nat} {k:zV->Prop}
theorem ae.xI(h:k (.int kd ((a+b:Nat):Int)))(hr:a+b<cv kd:=by first|(simp[cv];omega)|(simp only[cv];omega)|simp[cv]):ae .num .add (.int kd a) (.int kd b) k:=.iA hr h
theorem ae.inc(h:k (.int kd ((a+1:Nat):Int)))(hr:a+1<cv kd:=by first|(simp[cv];omega)|(simp only[cv];omega)|simp[cv]):ae .num .add (.int kd a) (.int kd 1) k:=.iA hr h
theorem ae.qp(h:k (.int kd ((a-b:Nat):Int)))(ha:a<cv kd:=by first|(simp[cv];omega)|(simp only[cv];omega)|simp[cv])(hb:b<=a:=by omega):ae .num .sub (.int kd a) (.int kd b) k:=.ju ha hb h
theorem ae.JW(h:k (.int kd ((a*b:Nat):Int)))(hr:a*b<cv kd:=by first|(simp[cv];omega)|(simp only[cv];omega)|simp[cv]):ae .num .mul (.int kd a) (.int kd b) k:=.pA hr h
theorem bj.q(h:k (.int kd (a:Int)))(ha:a<cv kd:=by first|(simp[cv];omega)|(simp only[cv];omega)|simp[cv]):bj kd (.int qU a) k:=.nat ha h
end
theorem Br.T{p:Prop}[Decidable p]{t f:Prop}(h:t)(hp:p:=by first|omega|decide|simp):Br (.bool (decide p)) t f:=.Io hp h
theorem Br.F{p:Prop}[Decidable p]{t f:Prop}(h:f)(hp:¬p:=by first|omega|decide|simp):Br (.bool (decide p)) t f:=.Ip hp h
theorem aa.fq{f:FuncId}{args:Array zV}{C H:Hp}{c:Hp->Hp}{Q:zV->Hp->Prop}{K:zV->Hp->Prop}{KP:List PanicEntry->Hp->Prop}(hc:Fc P f args C Q)
 (hk:∀v C',Q v C'->K v (c C'))(hh:bf C H c:=by repeat (first|exact bf.here|exact bf.left|apply bf.cons|apply bf.app)):aa P g f args H K KP:=.fn hh hc hk
theorem aa.rq{f:FuncId}{args:Array zV}{B H:Hp}{c:Hp->Hp}{Q:zV->Prop}{K:zV->Hp->Prop}{KP:List PanicEntry->Hp->Prop}(hc:Rd P f args B Q)
 (hk:∀v,Q v->K v H)(hh:bf B H c:=by repeat (first|exact bf.here|exact bf.left|apply bf.cons|apply bf.app)):aa P g f args H K KP:=.rd hh hc hk
theorem aa.eq{f:FuncId}{args:Array zV}{B H:Hp}{c:Hp->Hp}{v:zV}{K:zV->Hp->Prop}{KP:List PanicEntry->Hp->Prop}(hc:Rd P f args B (· =v))
 (hk:K v H)(hh:bf B H c:=by repeat (first|exact bf.here|exact bf.left|apply bf.cons|apply bf.app)):aa P g f args H K KP:=.rd hh hc λ_ h=>by subst h;exact hk
theorem aa.eh{f:FuncId}{args:Array zV}{B H:Hp}{c:Hp->Hp}{v:zV}{K:zV->Hp->Prop}{KP:List PanicEntry->Hp->Prop}(hh:bf B H c)(hc:Rd P f args B (· =v))
 (hk:K v H):aa P g f args H K KP:=.rd hh hc λ_ h=>by subst h;exact hk
theorem Ext.two{x y:zV}{k:zV->zV->Prop}(h:k x y):Ext 0 (.tuple #[x,y]) λa=>Ext 1 (.tuple #[x,y]) λb=>k a b:=.mk rfl (.mk rfl h)
end
end Go.Sx
set_option maxRecDepth 100000
namespace Go.Proofs
open Go Go.Sx Tryz
section
def kI(l:List Bool):Array zV:=(l.map Value.bool).toArray
end
section
theorem wk(L:List (zL)):(cI.iQ L).length<=L.length:=by
 have:=cI.dD (λa l=>cI.add l a) 1 (λa l=>cI.jh l a) L [];simpa[cI.iQ]using this
theorem AV(n u:Nat)(L:List (zL)):(cI.given n L u).length<=2*L.length:=by
 have h:=cI.dD (λt acc=>cI.add (cI.add acc (cI.l7 n t u false)) (cI.l7 n t u true)) 2 (λa l=>by have h1:=cI.jh (cI.add l (cI.l7 n a u false)) (cI.l7 n a u true);have h2:=cI.jh l (cI.l7 n a u false);omega) L [];simpa[cI.given]using h
end
end Go.Proofs
namespace au
open cI
theorem fB{x u v:Nat}{b c:Bool}(h:u≠v):aK (aK x u b) v c=aK (aK x v c) u b:=by
 apply xa6;intro k;rw[aj,aj,aj,aj];by_cases e1:k=u<;>by_cases e2:k=v
 ·exact absurd (e1.symm.trans e2) h
 ·simp[e1,h]
 ·simp[e2,xbQ h]
 simp[e1,e2]
structure Nd where
 v:Nat
 lo:Nat
 hi:Nat
deriving DecidableEq
abbrev cY:=Nat->Option Nd
abbrev Fn:=Nat->Bool
def live(N:cY)(r:Nat):Prop:=r<2\/∃d,N r=some d
def dep(n:Nat)(af:Nat->Nat)(N:cY)(r:Nat):Nat:=match N r with|some d=>af d.v|none=>n
structure WF(n:Nat)(af:Nat->Nat)(N:cY):Prop where
 two:∀{r d},N r=some d->2<=r
 var:∀{r d},N r=some d->d.v<n
 ne:∀{r d},N r=some d->d.lo≠d.hi
 lo:∀{r d},N r=some d->live N d.lo/\af d.v<dep n af N d.lo
 hi:∀{r d},N r=some d->live N d.hi/\af d.v<dep n af N d.hi
 uq:∀{r r' d},N r=some d->N r'=some d->r=r'
structure mr(n:Nat)(af:Nat->Nat):Prop where
 lt:∀v,v<n->af v<n
 inj:∀u v,u<n->v<n->af u=af v->u=v
structure Interp(N:cY)(S:Nat->Fn):Prop where
 zero:∀x,S 0 x=false
 one:∀x,S 1 x=true
 node:∀{r d},N r=some d->∀x,S r x=if x.testBit d.v then S d.hi x else S d.lo x
variable {n:Nat} {af:Nat->Nat} {N:cY} {S:Nat->Fn}
theorem aU{r:Nat}(h:N r=none):dep n af N r=n:=by unfold dep;rw[h]
theorem an{r:Nat}{d:Nd}(h:N r=some d):dep n af N r=af d.v:=by unfold dep;rw[h]
theorem WF.gj(h:WF n af N)(hl:mr n af)(r:Nat):dep n af N r<=n:=by
 cases e:N r with
 |none=>rw[aU e];exact xak _
 |some d=>rw[an e];exact xbR (hl.lt _ (h.var e))
theorem WF.const(h:WF n af N){r:Nat}(hr:r<2):N r=none:=by
 cases e:N r with
 |none=>rfl
 |some d=>have:=h.two e;omega
theorem WF.indep(h:WF n af N)(hl:mr n af)(hi:Interp N S):∀(k r:Nat),n-dep n af N r<=k->live N r->∀v,v<n->af v<dep n af N r->∀x b,S r (aK x v b)=S r x:=by
 intro k;induction k with
 |zero=>
  intro r hk hr v hv hlt x b;rcases hr with hr|⟨d,hd⟩
  ·have:r=0\/r=1:=by omega
   rcases this with rfl|rfl
   ·rw[hi.zero,hi.zero]
   rw[hi.one,hi.one]
  have h1:=hl.lt _ (h.var hd);rw[an hd]at hk;omega
 |succ k ih=>
  intro r hk hr v hv hlt x b;rcases hr with hr|⟨d,hd⟩
  ·have:r=0\/r=1:=by omega
   rcases this with rfl|rfl
   ·rw[hi.zero,hi.zero]
   rw[hi.one,hi.one]
  rw[an hd]at hk hlt;have h1:=hl.lt _ (h.var hd);obtain⟨l1,l2⟩:=h.lo hd;obtain⟨m1,m2⟩:=h.hi hd;have hne:d.v≠v:=λe=>by rw[e]at hlt;omega
  rw[hi.node hd,hi.node hd,aj,xab hne,ih d.lo zO l1 v hv zO,ih d.hi zO m1 v hv zO]
theorem WF.bK(h:WF n af N)(hl:mr n af)(hi:Interp N S){r:Nat}(hr:live N r){v:Nat}(hv:v<n)(hlt:af v<dep n af N r)(x:Nat)(b:Bool):S r (aK x v b)=S r x:=
 h.indep hl hi _ r (xak _) hr v hv hlt x b
theorem WF.child(h:WF n af N)(hl:mr n af)(hi:Interp N S){r:Nat}{d:Nd}(hd:N r=some d)(x:Nat)(b:Bool):S r (aK x d.v b)=S (if b then d.hi else d.lo) x:=by
 obtain⟨l1,l2⟩:=h.lo hd;obtain⟨m1,m2⟩:=h.hi hd;rw[hi.node hd,aj,xae rfl];cases b
 ·simp only[xas,xaG];exact h.bK hl hi l1 (h.var hd) l2 x false
 simp only[xaS];exact h.bK hl hi m1 (h.var hd) m2 x true
theorem WF.canon(h:WF n af N)(hl:mr n af)(hi:Interp N S):∀(k r r':Nat),(n-dep n af N r)+(n-dep n af N r')<=k->live N r->live N r'->(∀x,S r x=S r' x)->r=r':=by
 intro k;induction k with
 |zero=>
  intro r r' hk hr hr' he;have hc:∀{r},n-dep n af N r=0->live N r->r<2:=by
   intro r hk hr;rcases hr with hr|⟨d,hd⟩
   ·exact hr
   have h1:=hl.lt _ (h.var hd);rw[an hd]at hk;omega
  have h1:=hc zO hr;have h2:=hc zO hr';have e0:=he 0;have:r=0\/r=1:=by omega
  have h3:r'=0\/r'=1:=by omega
  rcases this with rfl|rfl<;>rcases h3 with rfl|rfl<;>simp[hi.zero,hi.one]at e0<;>rfl
 |succ k ih=>
  have BR:∀r r',(n-dep n af N r)+(n-dep n af N r')<=k+1->live N r'->(∀x,S r x=S r' x)->∀d,N r=some d->af d.v<dep n af N r'->False:=by
   intro r r' hk hr' he d hd hlt;obtain⟨l1,l2⟩:=h.lo hd;obtain⟨m1,m2⟩:=h.hi hd;have hv:=h.var hd;have h1:=hl.lt _ hv;have d1:=h.gj hl d.lo;have d2:=h.gj hl d.hi;have d3:=h.gj hl r';rw[an hd]at hk;have a1:d.lo=r':=ih d.lo r' zO l1 hr' λx=>by
    have:=h.child hl hi hd x false;simp only[xas,xaG]at this;rw[<-this,he,h.bK hl hi hr' hv hlt]
   have a2:d.hi=r':=ih d.hi r' zO m1 hr' λx=>by
    have:=h.child hl hi hd x true;simp only[xaS]at this;rw[<-this,he,h.bK hl hi hr' hv hlt]
   exact h.ne hd (a1.trans a2.symm)
  intro r r' hk hr hr' he;rcases hr with hr|⟨d,hd⟩
  ·rcases hr' with hr'|⟨d',jY⟩
   ·have e0:=he 0;have:r=0\/r=1:=by omega
    have h3:r'=0\/r'=1:=by omega
    rcases this with rfl|rfl<;>rcases h3 with rfl|rfl<;>simp[hi.zero,hi.one]at e0<;>rfl
   refine(BR r' r zO (.inl hr) (λx=>(he x).symm) d' jY ?_).elim;rw[aU (h.const hr)];exact hl.lt _ (h.var jY)
  rcases xds (af d.v) (dep n af N r')with hlt|heq|hgt
  ·exact(BR r r' hk hr' he d hd hlt).elim
  ·rcases hr' with hr'|⟨d',jY⟩
   ·rw[aU (h.const hr')]at heq;have:=hl.lt _ (h.var hd);omega
   rw[an jY]at heq;have hv:=hl.inj _ _ (h.var hd) (h.var jY) heq;obtain⟨l1,l2⟩:=h.lo hd;obtain⟨m1,m2⟩:=h.hi hd;obtain⟨JZ,Pu⟩:=h.lo jY;obtain⟨Nk,Pt⟩:=h.hi jY;have h1:=hl.lt _ (h.var hd);have d1:=h.gj hl d.lo;have d2:=h.gj hl d.hi;have P4:=h.gj hl d'.lo;have P3:=h.gj hl d'.hi;rw[an hd,an jY]at hk;have c1:=λx=>h.child hl hi hd x false;have c2:=λx=>h.child hl hi hd x true;have MA:=λx=>h.child hl hi jY x false;have Mz:=λx=>h.child hl hi jY x true;simp only[xas,xaG,xaS]at c1 c2 MA Mz;have a1:d.lo=d'.lo:=ih d.lo d'.lo zO l1 JZ λx=>by rw[<-c1,<-MA,he,hv]
   have a2:d.hi=d'.hi:=ih d.hi d'.hi zO m1 Nk λx=>by rw[<-c2,<-Mz,he,hv]
   have:d=d':=by cases d;cases d';simp_all
   subst this;exact h.uq hd jY
  rcases hr' with hr'|⟨d',jY⟩
  ·rw[aU (h.const hr')]at hgt;have:=hl.lt _ (h.var hd);omega
  rw[an jY]at hgt;refine(BR r' r zO (.inr ⟨d,hd⟩) (λx=>(he x).symm) d' jY ?_).elim;rw[an hd];exact hgt
theorem WF.same(h:WF n af N)(hl:mr n af)(hi:Interp N S){r r':Nat}(hr:live N r)(hr':live N r')(he:∀x,S r x=S r' x):r=r':=h.canon hl hi _ r r' (xak _) hr hr' he
end au
namespace au
open cI
variable {n:Nat} {af:Nat->Nat} {N:cY} {S:Nat->Fn} {ord:zL}
def cU(g:Fn)(v:Nat):Prop:=∃x,g (aK x v false)≠g (aK x v true)
def fs(ord:zL)(F:Fn->Prop):Nat->Fn->Prop
 |0,g=>F g
 |l+1,g=>∃f,fs ord F l f/\∃b,g=λx=>f (aK x (ord.getD l 0) b)
def aC(n:Nat)(ord:zL)(F:Fn->Prop)(g:Fn):Prop:=∃l,l<n/\fs ord F l g/\cU g (ord.getD l 0)
structure Ord(n:Nat)(af:Nat->Nat)(ord:zL):Prop where
 len:ord.length=n
 at':∀l,l<n->ord.getD l 0<n/\af (ord.getD l 0)=l
theorem Ord.of(h:Ord n af ord)(hl:mr n af){v:Nat}(hv:v<n):ord.getD (af v) 0=v:=by
 obtain⟨h1,h2⟩:=h.at' _ (hl.lt v hv);exact hl.inj _ _ h1 hv h2
def Fs(S:Nat->Fn)(R:Nat->Prop)(g:Fn):Prop:=∃r,R r/\g=S r
def A(N:cY)(af:Nat->Nat)(n:Nat)(R:Nat->Prop):Nat->Nat->Prop
 |0,r=>R r
 |l+1,r=>(A N af n R l r/\dep n af N r≠l)\/∃p d,A N af n R l p/\N p=some d/\af d.v=l/\(r=d.lo\/r=d.hi)
variable {R:Nat->Prop}
theorem p8(h:WF n af N)(hR:∀r,R r->live N r):∀l r,A N af n R l r->live N r/\l<=dep n af N r
 |0,r,ha=>⟨hR r ha,xaE _⟩
 |l+1,r,ha=>by
  rcases ha with⟨h1,h2⟩|⟨p,d,h1,h2,h3,h4⟩
  ·have:=p8 h hR l r h1;exact⟨this.1,by omega⟩
  rcases h4 with rfl|rfl
  ·have:=h.lo h2;exact⟨this.1,by omega⟩
  have:=h.hi h2;exact⟨this.1,by omega⟩
theorem kN{r:Nat}:∀k l,A N af n R l r->l+k<=dep n af N r->A N af n R (l+k) r
 |0,l,ha,_=>ha
 |k+1,l,ha,hk=>by
  have h1:=kN k l ha zO;have h2:dep n af N r≠l+k:=by omega
  exact .inl ⟨h1,h2⟩
def Reach(N:cY)(R:Nat->Prop):Prop:=∀r d,N r=some d->R r\/∃p e,N p=some e/\(e.lo=r\/e.hi=r)
theorem IM(h:WF n af N)(hr:Reach N R):∀k r d,N r=some d->af d.v<=k->A N af n R (af d.v) r:=by
 intro k;induction k with
 |zero=>
  intro r d hd hk;rcases hr r d hd with h1|⟨p,e,h1,h2⟩
  ·rw[show af d.v=0 by omega];exact h1
  have:=h.lo h1;have h3:=h.hi h1;rcases h2 with rfl|rfl
  ·rw[an hd]at this;omega
  rw[an hd]at h3;omega
 |succ k ih=>
  intro r d hd hk;rcases hr r d hd with h1|⟨p,e,h1,h2⟩
  ·have:=kN (N:=N) (af:=af) (n:=n) (R:=R) (r:=r) (af d.v) 0 h1 (by rw[an hd];omega);rwa [xa1]at this
  have hlt:af e.v<af d.v:=by
   have:=h.lo h1;have h3:=h.hi h1;rcases h2 with rfl|rfl
   ·rw[an hd]at this;omega
   rw[an hd]at h3;omega
  have ha:=ih p e h1 zO;have hb:A N af n R (af e.v+1) r:=.inr ⟨p,e,ha,h1,rfl,by rcases h2 with rfl|rfl;exact .inl rfl;exact .inr rfl⟩;have:=kN (af d.v-(af e.v+1)) _ hb (by rw[an hd];omega);rwa [show af e.v+1+(af d.v-(af e.v+1))=af d.v by omega]at this
theorem A2(h:WF n af N)(hl:mr n af)(ho:Ord n af ord)(hi:Interp N S)(hR:∀r,R r->live N r):∀l,l<=n->∀g,fs ord (Fs S R) l g↔∃r,A N af n R l r/\g=S r
 |0,_,g=>xc0
 |l+1,Dh,g=>by
  obtain⟨v1,v2⟩:=ho.at' l Dh;have ih:=A2 h hl ho hi hR l zO;constructor
  ·rintro⟨f,hf,b,rfl⟩;obtain⟨r,ha,rfl⟩:=(ih f).1 hf;obtain⟨hlv,hle⟩:=p8 h hR l r ha;by_cases e:dep n af N r=l
   ·rcases hlv with hc|⟨d,hd⟩
    ·rw[aU (h.const hc)]at e;omega
    rw[an hd]at e;have hv:d.v=ord.getD l 0:=hl.inj _ _ (h.var hd) v1 zO;refine⟨if b then d.hi else d.lo,.inr ⟨r,d,ha,hd,e,by cases b<;>simp⟩,?_⟩
    funext x
    rw[<-hv];exact h.child hl hi hd x b
   refine⟨r,.inl ⟨ha,e⟩,?_⟩
   funext x
   exact h.bK hl hi hlv v1 zO x b
  rintro⟨r,ha,rfl⟩;rcases ha with⟨h1,h2⟩|⟨p,d,h1,h2,h3,h4⟩
  ·obtain⟨hlv,hle⟩:=p8 h hR l r h1;refine⟨S r,(ih _).2 ⟨r,h1,rfl⟩,false,?_⟩
   funext x
   exact(h.bK hl hi hlv v1 zO x false).symm
  have hv:d.v=ord.getD l 0:=hl.inj _ _ (h.var h2) v1 zO;rcases h4 with rfl|rfl
  ·refine⟨S p,(ih _).2 ⟨p,h1,rfl⟩,false,?_⟩
   funext x
   rw[<-hv];exact(h.child hl hi h2 x false).symm
  refine⟨S p,(ih _).2 ⟨p,h1,rfl⟩,true,?_⟩
  funext x
  rw[<-hv];exact(h.child hl hi h2 x true).symm
theorem kW(h:WF n af N)(hl:mr n af)(ho:Ord n af ord)(hi:Interp N S)(hR:∀r,R r->live N r)(hr:Reach N R)(g:Fn):aC n ord (Fs S R) g↔∃r d,N r=some d/\g=S r:=by
 constructor
 ·rintro⟨l,Dh,hf,x,hx⟩;obtain⟨v1,v2⟩:=ho.at' l Dh;obtain⟨r,ha,rfl⟩:=(A2 h hl ho hi hR l zO g).1 hf;obtain⟨hlv,hle⟩:=p8 h hR l r ha;by_cases e:dep n af N r=l
  ·rcases hlv with hc|⟨d,hd⟩
   ·rw[aU (h.const hc)]at e;omega
   exact⟨r,d,hd,rfl⟩
  exact absurd (by rw[h.bK hl hi hlv v1 zO,h.bK hl hi hlv v1 zO]) hx
 rintro⟨r,d,hd,rfl⟩;have hv:=h.var hd;have hlt:=hl.lt _ hv;refine⟨af d.v,hlt,(A2 h hl ho hi hR _ zO _).2 ⟨r,IM h hr _ r d hd (xak _),rfl⟩,?_⟩;rw[ho.of hl hv];refine xaX λhno=>h.ne hd (h.same hl hi (h.lo hd).1 (h.hi hd).1 λx=>?_);have c1:=h.child hl hi hd x false;have c2:=h.child hl hi hd x true;simp only[xas,xaG,xaS]at c1 c2;rw[<-c1,<-c2];exact xaX λhne=>hno ⟨x,hne⟩
def nP(P:Fn->Prop)(k:Nat):Prop:=∃l:List Fn,l.Nodup/\l.length=k/\∀g,P g↔g∈l
theorem nP.congr{P Q:Fn->Prop}{k:Nat}(h:nP P k)(e:∀g,P g↔Q g):nP Q k:=let ⟨l,h1,h2,h3⟩:=h;⟨l,h1,h2,λg=>(e g).symm.trans (h3 g)⟩
theorem bG{α:Type}:∀{l l':List α},l.Nodup->(∀x∈l,x∈l')->l.length<=l'.length
 | [],l',_,_=>xaE _
 |x::l,l',hn,hs=>by
  obtain⟨h1,h2⟩:=xaT.1 hn;obtain⟨a,b,rfl⟩:=xcD (hs x zI);have:=bG (l':=a++b) h2 λy hy=>by
   have:=hs y (by simp[hy]);rcases xaw.1 this with h|h
   ·exact xac _ h
   rcases xaf.1 h with rfl|h
   ·exact absurd hy h1
   exact xaa _ h
  simp at this⊢;omega
theorem nP.le{P Q:Fn->Prop}{k k':Nat}(h:nP P k)(h':nP Q k')(e:∀g,P g->Q g):k<=k':=by
 obtain⟨l,h1,h2,h3⟩:=h;obtain⟨l',qc,nO,pO⟩:=h';rw[<-h2,<-nO];exact bG h1 λx hx=>(pO x).1 (e x ((h3 x).2 hx))
theorem nP.uniq{P:Fn->Prop}{k k':Nat}(h:nP P k)(h':nP P k'):k=k':=Nat.le_antisymm (h.le h' λ_=>id) (h'.le h λ_=>id)
theorem xA(h:WF n af N)(hl:mr n af)(hi:Interp N S){dom:zL}(hd:dom.Nodup)(hm:∀r,r∈dom↔∃d,N r=some d):nP (λg=>∃r d,N r=some d/\g=S r) dom.length:=by
 refine⟨dom.map S,?_,by simp,λg=>?_⟩
 ·refine xcf.2 (hd.imp_of_mem λ{a b} ha hb hne heq=>hne ?_);exact h.same hl hi (.inr ((hm a).1 ha)) (.inr ((hm b).1 hb)) λx=>by rw[heq]
 rw[xan];constructor
 ·rintro⟨r,d,h1,rfl⟩;exact⟨r,(hm r).2 ⟨d,h1⟩,rfl⟩
 rintro⟨r,h1,rfl⟩;obtain⟨d,h2⟩:=(hm r).1 h1;exact⟨r,d,h2,rfl⟩
end au
namespace au
open cI
def up{α:Type}(N:Nat->α)(r:Nat)(o:α):Nat->α:=λs=>if s=r then o else N s
@[simp] theorem aE{α:Type}{N:Nat->α}{r:Nat}{o:α}:up N r o r=o:=xae rfl
theorem aJ{α:Type}{N:Nat->α}{r s:Nat}{o:α}(h:s≠r):up N r o s=N s:=xab h
def uK(T:Nd->Option Nat)(d:Nd)(o:Option Nat):Nd->Option Nat:=λe=>if e=d then o else T e
@[simp] theorem jq{T:Nd->Option Nat}{d:Nd}{o:Option Nat}:uK T d o d=o:=xae rfl
theorem ph{T:Nd->Option Nat}{d e:Nd}{o:Option Nat}(h:e≠d):uK T d o e=T e:=xab h
def e1:Option Nd->Nat->Nat
 |none,_=>0
 |some d,r=>(if d.lo=r then 1 else 0)+(if d.hi=r then 1 else 0)
theorem ew(d:Nd)(r:Nat):e1 (some d) r=(if d.lo=r then 1 else 0)+(if d.hi=r then 1 else 0):=rfl
def cg(N:cY)(r:Nat):Nat->Nat
 |0=>0
 |k+1=>cg N r k+e1 (N k) r
def gX(N:cY):Nat->Nat
 |0=>0
 |k+1=>gX N k+(if(N k).isSome then 1 else 0)
theorem oU{N:cY}{s r:Nat}{o:Option Nd}:∀{k},(s<k->cg (up N s o) r k+e1 (N s) r=cg N r k+e1 o r)/\(k<=s->cg (up N s o) r k=cg N r k)
 |0=>⟨λh=>by omega,λ_=>rfl⟩
 |k+1=>by
  obtain⟨i1,i2⟩:=oU (N:=N) (s:=s) (r:=r) (o:=o) (k:=k);refine⟨λh=>?_,λh=>?_⟩
  ·rw[cg,cg];by_cases e:s=k
   ·subst e;rw[aE,i2 (xak _)];omega
   have:=i1 zO;rw[aJ (λh=>e h.symm)];omega
  rw[cg,cg,i2 zO,aJ zO]
theorem ru{N:cY}{s r k:Nat}{o:Option Nd}(h:s<k):cg (up N s o) r k+e1 (N s) r=cg N r k+e1 o r:=oU.1 h
theorem nf{N:cY}{s:Nat}{o:Option Nd}:∀{k},(s<k->gX (up N s o) k+(if(N s).isSome then 1 else 0)=gX N k+(if o.isSome then 1 else 0))/\(k<=s->gX (up N s o) k=gX N k)
 |0=>⟨λh=>by omega,λ_=>rfl⟩
 |k+1=>by
  obtain⟨i1,i2⟩:=nf (N:=N) (s:=s) (o:=o) (k:=k);refine⟨λh=>?_,λh=>?_⟩
  ·rw[gX,gX];by_cases e:s=k
   ·subst e;rw[aE,i2 (xak _)];omega
   have:=i1 zO;rw[aJ (λh=>e h.symm)];omega
  rw[gX,gX,i2 zO,aJ zO]
theorem gi{N:cY}{r:Nat}:∀{k},cg N r k=0->∀s,s<k->∀d,N s=some d->d.lo≠r/\d.hi≠r
 |0,_,s,hs,_,_=>by omega
 |k+1,h,s,hs,d,hd=>by
  rw[cg]at h;by_cases e:s=k
  ·subst e;rw[hd,ew]at h;constructor
   ·intro h1;rw[xae h1]at h;omega
   intro h1;rw[xae h1]at h;omega
  exact gi (k:=k) zO s zO d hd
theorem kF{N:cY}{r:Nat}:∀{k},0<cg N r k->∃s d,s<k/\N s=some d/\(d.lo=r\/d.hi=r)
 |0,h=>by simp[cg]at h
 |k+1,h=>by
  rw[cg]at h;by_cases hk:0<cg N r k
  ·obtain⟨s,d,h1,h2,h3⟩:=kF hk;exact⟨s,d,by omega,h2,h3⟩
  cases hd:N k with
  |none=>rw[hd]at h;simp[e1]at h;omega
  |some d=>
   refine⟨k,d,by omega,hd,?_⟩;rw[hd,ew]at h;by_cases h1:d.lo=r
   ·exact .inl h1
   by_cases h2:d.hi=r
   ·exact .inr h2
   rw[xab h1,xab h2]at h;omega
theorem ry{N:cY}{r:Nat}:∀k,cg N r k<=2*k
 |0=>xak _
 |k+1=>by
  have:=ry (N:=N) (r:=r) k;rw[cg];have:e1 (N k) r<=2:=by
   cases N k with
   |none=>simp[e1]
   |some d=>rw[ew];split<;>split<;>omega
  omega
theorem rF(N:cY):∀k,((List.range k).filter λr=>(N r).isSome).length=gX N k
 |0=>rfl
 |k+1=>by
  rw[xdC,List.filter_append,xaq,rF N k,gX];congr 1;cases h:N k<;>simp[h]
structure Kd where
 n:Nat
 cap:Nat
 used:Nat
 N:cY
 T:Nd->Option Nat
 us:zL
 ho:zL
def Kd.hold(K:Kd)(r:Nat):Nat:=K.ho.getD r 0
def Kd.use(K:Kd)(r:Nat):Nat:=K.us.getD r 0
structure iB(K:Kd)(S:Nat->Fn)(E:Nat->Prop)(P:Nat->Nat):Prop where
 two:∀{r d},K.N r=some d->2<=r/\r<K.cap
 var:∀{r d},K.N r=some d->d.v<K.n
 ne:∀{r d},K.N r=some d->d.lo≠d.hi
 lo:∀{r d},K.N r=some d->live K.N d.lo
 hi:∀{r d},K.N r=some d->live K.N d.hi
 int:Interp K.N S
 nJ:∀d r,K.T d=some r↔K.N r=some d/\¬E r
 use:∀{r d},K.N r=some d->K.use r=cg K.N r K.cap+(if K.hold r=0 then 0 else 1)+P r
 len:K.us.length=K.ho.length
 fit:∀{r d},K.N r=some d->r<K.us.length
 held:∀r,K.hold r≠0->∃d,K.N r=some d
 mx:∀r,K.hold r<=65535
 room:K.used=2+gX K.N K.cap
 cap:K.used<=K.cap/\K.cap<=1048576
variable {K:Kd} {S:Nat->Fn} {E:Nat->Prop} {P:Nat->Nat}
theorem mc{N:cY}{r s:Nat}{d:Nd}(h:live N s):live (up N r (some d)) s:=by
 rcases h with h|⟨e,h⟩
 ·exact .inl h
 by_cases e2:s=r
 ·subst e2;exact .inr ⟨d,aE⟩
 exact .inr ⟨e,by rw[aJ e2];exact h⟩
theorem oH{N:cY}{r s:Nat}(h:live N s)(hne:s≠r):live (up N r none) s:=by
 rcases h with h|⟨e,h⟩
 ·exact .inl h
 exact .inr ⟨e,by rw[aJ hne];exact h⟩
def Pos(K:Kd):Prop:=∀r d,K.N r=some d->0<K.use r
theorem iB.less(h:iB K S E P){r:Nat}{dy:zL}(hP:0<P r)(hl:dy.length=K.us.length)(h1:dy.getD r 0+1=K.use r)(h2:∀s,s≠r->dy.getD s 0=K.use s):
  iB {K with us:=dy} S E (up P r (P r-1)) where
 two:=h.two
 var:=h.var
 ne:=h.ne
 lo:=h.lo
 hi:=h.hi
 int:=h.int
 nJ:=h.nJ
 use:=λ{s d} hd=>by
  have:=h.use hd;show dy.getD s 0=cg K.N s K.cap+(if K.hold s=0 then 0 else 1)+up P r (P r-1) s;by_cases e:s=r
  ·subst e;rw[aE];omega
  rw[h2 s e,aJ e];exact this
 len:=by show dy.length=_;rw[hl];exact h.len
 fit:=λ{s d} hd=>by show s<dy.length;rw[hl];exact h.fit hd
 held:=h.held
 mx:=h.mx
 room:=h.room
 cap:=h.cap
theorem iB.free(h:iB K S E P){r:Nat}{d:Nd}(hd:K.N r=some d)(hE:¬E r)(h0:K.use r=0):
  iB {K with N:=up K.N r none,T:=uK K.T d none,used:=K.used-1} S E (λs=>P s+e1 (some d) s) where
 two:=λ{s e} hs=>by
  have hs':up K.N r none s=some e:=hs;by_cases e2:s=r
  ·subst e2;rw[aE]at hs';cases hs'
  rw[aJ e2]at hs';exact h.two hs'
 var:=λ{s e} hs=>by
  have hs':up K.N r none s=some e:=hs;by_cases e2:s=r
  ·subst e2;rw[aE]at hs';cases hs'
  rw[aJ e2]at hs';exact h.var hs'
 ne:=λ{s e} hs=>by
  have hs':up K.N r none s=some e:=hs;by_cases e2:s=r
  ·subst e2;rw[aE]at hs';cases hs'
  rw[aJ e2]at hs';exact h.ne hs'
 lo:=λ{s e} hs=>by
  have hs':up K.N r none s=some e:=hs;by_cases e2:s=r
  ·subst e2;rw[aE]at hs';cases hs'
  rw[aJ e2]at hs';have hu:=h.use hd;exact oH (h.lo hs') (gi zO s (h.two hs').2 e hs').1
 hi:=λ{s e} hs=>by
  have hs':up K.N r none s=some e:=hs;by_cases e2:s=r
  ·subst e2;rw[aE]at hs';cases hs'
  rw[aJ e2]at hs';have hu:=h.use hd;exact oH (h.hi hs') (gi zO s (h.two hs').2 e hs').2
 int:=⟨h.int.zero,h.int.one,λ{s e} hs x=>by
  have hs':up K.N r none s=some e:=hs;by_cases e2:s=r
  ·subst e2;rw[aE]at hs';cases hs'
  rw[aJ e2]at hs';exact h.int.node hs' x⟩
 nJ:=λe s=>by
  show uK K.T d none e=some s↔up K.N r none s=some e/\_;by_cases e2:e=d
  ·subst e2;rw[jq];constructor
   ·intro h;cases h
   rintro⟨h1,h2⟩;by_cases e3:s=r
   ·subst e3;rw[aE]at h1;cases h1
   rw[aJ e3]at h1;have a:=(h.nJ e s).2 ⟨h1,h2⟩;have b:=(h.nJ e r).2 ⟨hd,hE⟩;rw[a]at b;cases b;exact absurd rfl e3
  rw[ph e2,h.nJ];by_cases e3:s=r
  ·subst e3;rw[aE];constructor
   ·rintro⟨h1,_⟩;rw[hd]at h1;cases h1;exact absurd rfl e2
   rintro⟨h1,_⟩;cases h1
  rw[aJ e3]
 use:=λ{s e} hs=>by
  have hs':up K.N r none s=some e:=hs;by_cases e2:s=r
  ·subst e2;rw[aE]at hs';cases hs'
  rw[aJ e2]at hs';have hu:=h.use hs';have he:=ru (N:=K.N) (s:=r) (r:=s) (k:=K.cap) (o:=none) (h.two hd).2;show K.use s=cg (up K.N r none) s K.cap+(if K.hold s=0 then 0 else 1)+(P s+e1 (some d) s);rw[hd]at he;have:e1 none s=0:=rfl;omega
 len:=h.len
 fit:=λ{s e} hs=>by
  have hs':up K.N r none s=some e:=hs;by_cases e2:s=r
  ·subst e2;rw[aE]at hs';cases hs'
  rw[aJ e2]at hs';exact h.fit hs'
 held:=λs hs=>by
  obtain⟨e,he⟩:=h.held s hs;have hne:s≠r:=λe2=>by
   subst e2;have hu:=h.use hd;have hs':K.hold s≠0:=hs;rw[xab hs']at hu;omega
  exact⟨e,by show up K.N r none s=_;rw[aJ hne];exact he⟩
 mx:=h.mx
 room:=by
  have:=(nf (N:=K.N) (s:=r) (o:=none) (k:=K.cap)).1 (h.two hd).2;have hr:=h.room;rw[hd]at this;show K.used-1=2+gX (up K.N r none) K.cap;simp at this;omega
 cap:=⟨by have:=h.cap.1;show K.used-1<=K.cap;omega,h.cap.2⟩
end au
namespace au
open cI
variable {K:Kd} {S:Nat->Fn} {E:Nat->Prop} {P:Nat->Nat}
def ite(S:Nat->Fn)(d:Nd):Fn:=λx=>if x.testBit d.v then S d.hi x else S d.lo x
theorem dx{N:cY}{r s:Nat}(h:live N s)(h2:2<=r)(hr:N r=none):s≠r:=λe=>by
 subst e;rcases h with h|⟨d,h⟩
 ·omega
 rw[hr]at h;cases h
theorem iB.lay(h:iB K S E P){r:Nat}{d:Nd}{dy cB:zL}(hr:K.N r=none)(h2:2<=r/\r<K.cap)(hv:d.v<K.n)(hne:d.lo≠d.hi)(hlo:live K.N d.lo)(hhi:live K.N d.hi)(hT:K.T d=none)(hE:¬E r)
 (hP:P r=0)(hro:K.used<K.cap)(hl:dy.length=cB.length)(hf:r<dy.length/\K.us.length<=dy.length)(u0:dy.getD r 0=0)(u1:∀s,2<=s->s≠r->dy.getD s 0=K.use s+e1 (some d) s)(o0:cB.getD r 0=0)(o1:∀s,s≠r->cB.getD s 0=K.hold s):
  iB {K with N:=up K.N r (some d),T:=uK K.T d (some r),used:=K.used+1,us:=dy,ho:=cB} (up S r (ite S d)) E P where
 two:=λ{s e} hs=>by
  have hs':up K.N r (some d) s=some e:=hs;by_cases e2:s=r
  ·subst e2;exact h2
  rw[aJ e2]at hs';exact h.two hs'
 var:=λ{s e} hs=>by
  have hs':up K.N r (some d) s=some e:=hs;by_cases e2:s=r
  ·subst e2;rw[aE]at hs';cases hs';exact hv
  rw[aJ e2]at hs';exact h.var hs'
 ne:=λ{s e} hs=>by
  have hs':up K.N r (some d) s=some e:=hs;by_cases e2:s=r
  ·subst e2;rw[aE]at hs';cases hs';exact hne
  rw[aJ e2]at hs';exact h.ne hs'
 lo:=λ{s e} hs=>by
  have hs':up K.N r (some d) s=some e:=hs;by_cases e2:s=r
  ·subst e2;rw[aE]at hs';cases hs';exact mc hlo
  rw[aJ e2]at hs';exact mc (h.lo hs')
 hi:=λ{s e} hs=>by
  have hs':up K.N r (some d) s=some e:=hs;by_cases e2:s=r
  ·subst e2;rw[aE]at hs';cases hs';exact mc hhi
  rw[aJ e2]at hs';exact mc (h.hi hs')
 int:=⟨λx=>by rw[aJ zO];exact h.int.zero x,λx=>by rw[aJ zO];exact h.int.one x,λ{s e} hs x=>by
  have hs':up K.N r (some d) s=some e:=hs;by_cases e2:s=r
  ·subst e2;rw[aE]at hs';cases hs';rw[aE,aJ (dx hlo h2.1 hr),aJ (dx hhi h2.1 hr)];rfl
  rw[aJ e2]at hs';rw[aJ e2,aJ (dx (h.lo hs') h2.1 hr),aJ (dx (h.hi hs') h2.1 hr)];exact h.int.node hs' x⟩
 nJ:=λe s=>by
  show uK K.T d (some r) e=some s↔up K.N r (some d) s=some e/\_;by_cases e2:e=d
  ·subst e2;rw[jq];constructor
   ·intro h;cases h;exact⟨aE,hE⟩
   rintro⟨h1,nO⟩;by_cases e3:s=r
   ·rw[e3]
   rw[aJ e3]at h1;have a:=(h.nJ e s).2 ⟨h1,nO⟩;rw[hT]at a;cases a
  rw[ph e2,h.nJ];by_cases e3:s=r
  ·subst e3;rw[aE,hr];constructor
   ·rintro⟨h1,_⟩;cases h1
   rintro⟨h1,_⟩;cases h1;exact absurd rfl e2
  rw[aJ e3]
 use:=λ{s e} hs=>by
  have hs':up K.N r (some d) s=some e:=hs;have he:=ru (N:=K.N) (s:=r) (r:=s) (k:=K.cap) (o:=some d) h2.2;rw[hr]at he;have h0:e1 none s=0:=rfl;show dy.getD s 0=cg (up K.N r (some d)) s K.cap+(if cB.getD s 0=0 then 0 else 1)+P s;by_cases e2:s=r
  ·subst e2;have hz:cg K.N s K.cap=0:=by
    refine Nat.eq_zero_of_not_pos λhp=>?_;obtain⟨t,e',_,ht,hc⟩:=kF hp;have Ef:=dx (h.lo ht) h2.1 hr;have vi:=dx (h.hi ht) h2.1 hr;rcases hc with hc|hc
    ·exact Ef hc
    exact vi hc
   have PT:e1 (some d) s=0:=by
    rw[ew,xab (dx hlo h2.1 hr),xab (dx hhi h2.1 hr)]
   rw[u0,o0,xae rfl];omega
  rw[aJ e2]at hs';have hu:=h.use hs';have h3:cB.getD s 0=K.hold s:=o1 s e2;rw[u1 s (h.two hs').1 e2,h3];omega
 len:=hl
 fit:=λ{s e} hs=>by
  have hs':up K.N r (some d) s=some e:=hs;show s<dy.length;by_cases e2:s=r
  ·subst e2;exact hf.1
  rw[aJ e2]at hs';exact xbr (h.fit hs') hf.2
 held:=λs hs=>by
  have hs':cB.getD s 0≠0:=hs;by_cases e2:s=r
  ·subst e2;exact⟨d,aE⟩
  rw[o1 s e2]at hs';obtain⟨e,he⟩:=h.held s hs';exact⟨e,by show up K.N r (some d) s=_;rw[aJ e2];exact he⟩
 mx:=λs=>by
  show cB.getD s 0<=65535;by_cases e2:s=r
  ·subst e2;rw[o0];decide
  rw[o1 s e2];exact h.mx s
 room:=by
  have:=(nf (N:=K.N) (s:=r) (o:=some d) (k:=K.cap)).1 h2.2;have hr':=h.room;rw[hr]at this;show K.used+1=2+gX (up K.N r (some d)) K.cap;simp at this;omega
 cap:=⟨by show K.used+1<=K.cap;omega,h.cap.2⟩
theorem iB.keep(h:iB K S E P){r:Nat}{dy cB:zL}(hr:∃d,K.N r=some d)(hm:K.hold r<65535)(hl:dy.length=K.us.length/\cB.length=K.ho.length)(o0:cB.getD r 0=K.hold r+1)(o1:∀s,s≠r->cB.getD s 0=K.hold s)
 (u0:dy.getD r 0=K.use r+(if K.hold r=0 then 1 else 0))(u1:∀s,s≠r->dy.getD s 0=K.use s):iB {K with us:=dy,ho:=cB} S E P where
 two:=h.two
 var:=h.var
 ne:=h.ne
 lo:=h.lo
 hi:=h.hi
 int:=h.int
 nJ:=h.nJ
 use:=λ{s e} hs=>by
  have hu:=h.use hs;show dy.getD s 0=cg K.N s K.cap+(if cB.getD s 0=0 then 0 else 1)+P s;by_cases e2:s=r
  ·subst e2;rw[u0,o0,xab (by omega:¬K.hold s+1=0)];by_cases e3:K.hold s=0
   ·rw[xae e3]at hu⊢;omega
   rw[xab e3]at hu⊢;omega
  rw[u1 s e2,o1 s e2];exact hu
 len:=by show dy.length=cB.length;rw[hl.1,hl.2];exact h.len
 fit:=λ{s e} hs=>by show s<dy.length;rw[hl.1];exact h.fit hs
 held:=λs hs=>by
  have hs':cB.getD s 0≠0:=hs;by_cases e2:s=r
  ·subst e2;exact hr
  rw[o1 s e2]at hs';exact h.held s hs'
 mx:=λs=>by
  show cB.getD s 0<=65535;by_cases e2:s=r
  ·subst e2;rw[o0];omega
  rw[o1 s e2];exact h.mx s
 room:=h.room
 cap:=h.cap
theorem iB.drop(h:iB K S E P){r:Nat}{cB:zL}(hr:0<K.hold r)(hl:cB.length=K.ho.length)(o0:cB.getD r 0+1=K.hold r)(o1:∀s,s≠r->cB.getD s 0=K.hold s):
  iB {K with ho:=cB} S E (if K.hold r=1 then up P r (P r+1)else P) where
 two:=h.two
 var:=h.var
 ne:=h.ne
 lo:=h.lo
 hi:=h.hi
 int:=h.int
 nJ:=h.nJ
 use:=λ{s e} hs=>by
  have hu:=h.use hs;show K.use s=cg K.N s K.cap+(if cB.getD s 0=0 then 0 else 1)+(if K.hold r=1 then up P r (P r+1)else P) s;by_cases e2:s=r
  ·subst e2;rw[xab (by omega:¬K.hold s=0)]at hu;by_cases e3:K.hold s=1
   ·rw[xae e3,aE,xae zO];omega
   rw[xab e3,xab zO];omega
  rw[o1 s e2];by_cases e3:K.hold r=1
  ·rw[xae e3,aJ e2];exact hu
  rw[xab e3];exact hu
 len:=by show K.us.length=cB.length;rw[hl];exact h.len
 fit:=h.fit
 held:=λs hs=>by
  have hs':cB.getD s 0≠0:=hs;by_cases e2:s=r
  ·subst e2;exact h.held s zO
  rw[o1 s e2]at hs';exact h.held s hs'
 mx:=λs=>by
  show cB.getD s 0<=65535;have:=h.mx r;by_cases e2:s=r
  ·subst e2;omega
  rw[o1 s e2];exact h.mx s
 room:=h.room
 cap:=h.cap
theorem iB.congr(h:iB K S E P){E':Nat->Prop}{P':Nat->Nat}(hE:∀s,E s↔E' s)(hP:∀s,2<=s->P s=P' s):iB K S E' P' where
 two:=h.two
 var:=h.var
 ne:=h.ne
 lo:=h.lo
 hi:=h.hi
 int:=h.int
 nJ:=λd r=>by rw[h.nJ,hE]
 use:=λ{s e} hs=>by rw[<-hP s (h.two hs).1];exact h.use hs
 len:=h.len
 fit:=h.fit
 held:=h.held
 mx:=h.mx
 room:=h.room
 cap:=h.cap
def gv:Nat->Prop:=λ_=>False
def zero':Nat->Nat:=λ_=>0
structure Ok(K:Kd)(S:Nat->Fn)(af:Nat->Nat):Prop where
 mid:iB K S gv zero'
 pos:Pos K
 lv:mr K.n af
 wf:WF K.n af K.N
theorem iB.uq(h:iB K S gv P){r r':Nat}{d:Nd}(h1:K.N r=some d)(h2:K.N r'=some d):r=r':=by
 have a:=(h.nJ d r).2 ⟨h1,λx=>x⟩;have b:=(h.nJ d r').2 ⟨h2,λx=>x⟩;rw[a]at b;cases b;rfl
theorem iB.wf(h:iB K S gv P){af:Nat->Nat}(hl:∀{r d},K.N r=some d->af d.v<dep K.n af K.N d.lo/\af d.v<dep K.n af K.N d.hi):WF K.n af K.N:=
 ⟨λhd=>(h.two hd).1,h.var,h.ne,λhd=>⟨h.lo hd,(hl hd).1⟩,λhd=>⟨h.hi hd,(hl hd).2⟩,h.uq⟩
theorem Ok.reach{af:Nat->Nat}(h:Ok K S af):Reach K.N (λr=>K.hold r≠0):=λr d hd=>by
 have hu:=h.mid.use hd;have hp:=h.pos r d hd;by_cases e:K.hold r=0
 ·rw[xae e]at hu;have:zero' r=0:=rfl;obtain⟨s,e',_,h1,h2⟩:=kF (N:=K.N) (r:=r) (k:=K.cap) zO;exact .inr ⟨s,e',h1,h2⟩
 exact .inl e
theorem Ok.dom{af:Nat->Nat}(h:Ok K S af):∃dom:zL,dom.Nodup/\dom.length+2=K.used/\∀r,r∈dom↔∃d,K.N r=some d:=by
 refine⟨(List.range K.cap).filter λr=>(K.N r).isSome,xcR.filter _,by rw[rF,h.mid.room];omega,λr=>?_⟩;rw[xca,xaP,Option.isSome_iff_exists];exact⟨λh=>h.2,λ⟨d,hd⟩=>⟨(h.mid.two hd).2,d,hd⟩⟩
def Kd.held(K:Kd)(S:Nat->Fn):Fn->Prop:=Fs S λr=>K.hold r≠0
theorem Ok.size{af:Nat->Nat}{ord:zL}(h:Ok K S af)(ho:Ord K.n af ord):nP (aC K.n ord (K.held S)) (K.used-2):=by
 obtain⟨dom,h1,h2,h3⟩:=h.dom;have hc:=xA h.wf h.lv h.mid.int h1 h3;rw[show dom.length=K.used-2 by omega]at hc;refine hc.congr λg=>?_;exact(kW h.wf h.lv ho h.mid.int (λr hr=>.inr (h.mid.held r hr)) h.reach g).symm
end au
namespace au
open cI
variable {n:Nat} {af:Nat->Nat} {N:cY} {S:Nat->Fn} {ord:zL} {K:Kd}
def pl(N:cY)(y r:Nat):Nat:=match N r with|some e=>if e.v=y then e.lo else r|none=>r
structure Cx where
 r:Nat
 d:Nd
 OZ:Nat
 OY:Nat
 GC:Nat
 GB:Nat
def keys(x:Nat)(c:Cx):List Nd:=[⟨x,c.OZ,c.GC⟩,⟨x,c.OY,c.GB⟩]
variable {x y l:Nat}
theorem fU(h:WF n af N)(hl:mr n af)(hi:Interp N S){r:Nat}{d:Nd}(hd:N r=some d):∃z,S r (aK z d.v false)≠S r (aK z d.v true):=by
 refine xaX λhno=>h.ne hd (h.same hl hi (h.lo hd).1 (h.hi hd).1 λz=>?_);have c1:=h.child hl hi hd z false;have c2:=h.child hl hi hd z true;simp only[xas,xaG,xaS]at c1 c2;rw[<-c1,<-c2];exact xaX λhne=>hno ⟨z,hne⟩
def LU(ord:zL)(l:Nat):zL:=(ord.set l (ord.getD (l+1) 0)).set (l+1) (ord.getD l 0)
variable {F:Fn->Prop}
end au
namespace au
open cI
variable {n cap l:Nat} {ord:zL} {F G:Fn->Prop}
open Classical in
noncomputable def sz(n:Nat)(ord:zL)(F:Fn->Prop):Nat:=if h:∃k,nP (aC n ord F) k then Classical.choose h else 0
theorem y9{k:Nat}(h:nP (aC n ord F) k):sz n ord F=k:=by
 unfold sz;rw[dif_pos ⟨k,h⟩];exact(xcZ (⟨k,h⟩:∃k,nP (aC n ord F) k)).uniq h
def LM(n:Nat)(ord:zL)(l:Nat)(F:Fn->Prop):Fn->Prop:=λg=>aC n ord F g\/aC n (LU ord l) F g
open Classical in
noncomputable def LR(n:Nat)(ord:zL)(l:Nat)(F:Fn->Prop):Nat:=if h:∃k,nP (LM n ord l F) k then Classical.choose h else 0
def Ix(n cap:Nat)(F:Fn->Prop):zL->zL->Prop
 |_,[]=>True
 |ord,l::r=>l+1<n/\LR n ord l F+2<=cap/\Ix n cap F (LU ord l) r
end au
namespace au
open cI
variable {n l:Nat} {ord:zL} {L:cI.Fs} {F:Fn->Prop}
def fo(n:Nat)(ws:zL):Fn:=λx=>bit ws (x%2^n)
theorem gF{x v n:Nat}{b:Bool}(hv:v<n):aK x v b%2^n=aK (x%2^n) v b:=by
 apply xa6;intro k;rw[xa4,aj,aj,xa4];by_cases e:k=v
 ·subst e;simp[hv]
 simp[e]
theorem pU{v:Nat}{ws:zL}(hf:iO n ws)(hv:v<n)(b:Bool):fo n (l7 n ws v b)=λx=>fo n ws (aK x v b):=by
 funext x
 unfold fo;rw[jO hf hv (xbG _ (xbI n)),gF hv]
theorem Bb{ws:zL}{x:Nat}(h:x<2^n):fo n ws x=bit ws x:=by unfold fo;rw[xbb h]
theorem vC{a b:zL}(ha:iO n a)(hb:iO n b)(h:fo n a=fo n b):a=b:=ha.ext hb λx hx=>by rw[<-Bb hx,<-Bb hx,h]
theorem kD{v:Nat}{ws:zL}(hf:iO n ws)(hv:v<n):cU (fo n ws) v↔cI.dep n ws v=true:=by
 rw[DA hf hv];constructor
 ·rintro⟨x,hx⟩;refine⟨x%2^n,xbG _ (xbI n),?_⟩;unfold fo at hx;rwa [gF hv,gF hv]at hx
 rintro⟨x,hx,hne⟩;refine⟨x,?_⟩;unfold fo;rwa [gF hv,gF hv,xbb hx]
def cur(n:Nat)(ord:zL)(L:cI.Fs):Nat->cI.Fs
 |0=>iQ L
 |k+1=>given n (cur n ord L k) (ord.getD k 0)
def FT(n:Nat)(L:cI.Fs):Fn->Prop:=λg=>∃t∈L,g=fo n t
theorem oY:∀k,(cur n ord L k).Nodup
 |0=>pn L
 |k+1=>q8 _ _ _
theorem ig(hL:∀t∈L,iO n t)(hn:n<=16):∀k,∀t∈cur n ord L k,iO n t
 |0,t,h=>hL t (iZ.1 h)
 |k+1,t,h=>by obtain⟨u,_,b,rfl⟩:=kg.1 h;exact pT hn
theorem pS(hL:∀t∈L,iO n t)(hn:n<=16)(ho:∀i,i<n->ord.getD i 0<n):∀k,k<=n->∀g,fs ord (FT n L) k g↔∃t∈cur n ord L k,g=fo n t
 |0,_,g=>by
  show(∃t∈L,g=fo n t)↔_;constructor
  ·rintro⟨t,h,e⟩;exact⟨t,iZ.2 h,e⟩
  rintro⟨t,h,e⟩;exact⟨t,iZ.1 h,e⟩
 |k+1,hk,g=>by
  have ih:=pS hL hn ho k zO;constructor
  ·rintro⟨f,hf,b,rfl⟩;obtain⟨t,ht,rfl⟩:=(ih f).1 hf;exact⟨l7 n t (ord.getD k 0) b,kg.2 ⟨t,ht,b,rfl⟩,(pU (ig hL hn k t ht) (ho k zO) b).symm⟩
  rintro⟨t,ht,rfl⟩;obtain⟨u,hu,b,rfl⟩:=kg.1 ht;exact⟨fo n u,(ih _).2 ⟨u,hu,rfl⟩,b,pU (ig hL hn k u hu) (ho k zO) b⟩
theorem jI:∀k g,fs ord F k g->∀j,j<k->¬cU g (ord.getD j 0)
 |0,_,_,_,h=>absurd h (xcv _)
 |k+1,g,h,j,hj=>by
  obtain⟨f,hf,b,rfl⟩:=h;rintro⟨x,hx⟩;apply hx;by_cases e:ord.getD j 0=ord.getD k 0
  ·show f (aK (aK x _ false) _ b)=f (aK (aK x _ true) _ b);congr 1;apply xa6;intro i;simp only[aj,e];split<;>rfl
  have hlt:j<k:=by
   rcases Nat.lt_succ_iff_lt_or_eq.1 hj with h|h
   ·exact h
   subst h;exact(e rfl).elim
  have:=jI k f hf j hlt;show f (aK (aK x _ false) _ b)=f (aK (aK x _ true) _ b);rw[fB e,fB e];exact xaX λhne=>this ⟨_,hne⟩
def lR(n:Nat)(ord:zL)(L:cI.Fs)(k:Nat):cI.Fs:=nodes n (cur n ord L k) (ord.getD k 0)
def gE(n:Nat)(ord:zL)(L:cI.Fs):Nat->Nat
 |0=>0
 |k+1=>gE n ord L k+(lR n ord L k).length
def sW(n:Nat)(ord:zL)(L:cI.Fs):Nat->cI.Fs
 |0=>[]
 |k+1=>sW n ord L k++lR n ord L k
theorem lu:∀k,(sW n ord L k).length=gE n ord L k
 |0=>rfl
 |k+1=>by rw[sW,gE,xaq,lu k]
theorem gI{k:Nat}{t:zL}:t∈lR n ord L k↔t∈cur n ord L k/\cI.dep n t (ord.getD k 0)=true:=by
 unfold lR nodes;rw[xca]
theorem rR(hL:∀t∈L,iO n t)(hn:n<=16):∀k,∀t∈sW n ord L k,iO n t
 |0,t,h=>by cases h
 |k+1,t,h=>by
  rcases xaw.1 h with h|h
  ·exact rR hL hn k t h
  exact ig hL hn k t (gI.1 h).1
theorem nk(hL:∀t∈L,iO n t)(hn:n<=16)(ho:∀i,i<n->ord.getD i 0<n):∀m,m<=n->∀g,(∃k,k<m/\fs ord (FT n L) k g/\cU g (ord.getD k 0))↔∃t∈sW n ord L m,g=fo n t
 |0,_,g=>by simp[sW]
 |m+1,hm,g=>by
  have ih:=nk hL hn ho m zO g;have af:(fs ord (FT n L) m g/\cU g (ord.getD m 0))↔∃t∈lR n ord L m,g=fo n t:=by
   rw[pS hL hn ho m zO];constructor
   ·rintro⟨⟨t,ht,rfl⟩,hh⟩;exact⟨t,gI.2 ⟨ht,(kD (ig hL hn m t ht) (ho m zO)).1 hh⟩,rfl⟩
   rintro⟨t,ht,rfl⟩;obtain⟨h1,h2⟩:=gI.1 ht;exact⟨⟨t,h1,rfl⟩,(kD (ig hL hn m t h1) (ho m zO)).2 h2⟩
  constructor
  ·rintro⟨k,hk,h1,h2⟩;by_cases e:k=m
   ·subst e;obtain⟨t,ht,rfl⟩:=af.1 ⟨h1,h2⟩;exact⟨t,xaa _ ht,rfl⟩
   obtain⟨t,ht,rfl⟩:=ih.1 ⟨k,by omega,h1,h2⟩;exact⟨t,xac _ ht,rfl⟩
  rintro⟨t,ht,rfl⟩;rcases xaw.1 ht with ht|ht
  ·obtain⟨k,hk,h⟩:=ih.2 ⟨t,ht,rfl⟩;exact⟨k,by omega,h⟩
  exact⟨m,by omega,af.2 ⟨t,ht,rfl⟩⟩
theorem nj(hL:∀t∈L,iO n t)(hn:n<=16)(ho:∀i,i<n->ord.getD i 0<n):∀m,m<=n->(sW n ord L m).Nodup
 |0,_=>List.nodup_nil
 |m+1,hm=>by
  refine xbL.2 ⟨nj hL hn ho m zO,(oY m).filter _,λa ha b hb e=>?_⟩;subst e;obtain⟨k,hk,h1,h2⟩:=(nk hL hn ho m zO (fo n a)).2 ⟨a,ha,rfl⟩;have h3:=(pS hL hn ho m zO (fo n a)).2 ⟨a,(gI.1 hb).1,rfl⟩;exact jI m _ h3 k hk h2
theorem By{P:Fn->Prop}{l:cI.Fs}(hf:∀t∈l,iO n t)(hn:l.Nodup)(h:∀g,P g↔∃t∈l,g=fo n t):nP P l.length:=by
 refine⟨l.map (fo n),?_,by simp,λg=>?_⟩
 ·refine xcf.2 (hn.imp_of_mem λ{a b} ha hb hne heq=>hne (vC (hf a ha) (hf b hb) heq))
 rw[h,xan];constructor
 ·rintro⟨t,ht,rfl⟩;exact⟨t,ht,rfl⟩
 rintro⟨t,ht,rfl⟩;exact⟨t,ht,rfl⟩
theorem Bz(hL:∀t∈L,iO n t)(hn:n<=16)(ho:∀i,i<n->ord.getD i 0<n):nP (aC n ord (FT n L)) (gE n ord L n):=by
 rw[<-lu];exact By (rR hL hn n) (nj hL hn ho n (xak _)) (nk hL hn ho n (xak _))
theorem GN(hL:∀t∈L,iO n t)(hn:n<=16)(ho:∀i,i<n->ord.getD i 0<n):sz n ord (FT n L)=gE n ord L n:=y9 (Bz hL hn ho)
end au
set_option maxRecDepth 100000
namespace Go.Proofs
open Go Go.Sx Tryz
section
open au
def u32(r:Nat):zV:=.int .u32 (r:Int)
def dQ(d:Nd):List zV:=[iv (d.v:Int),u32 d.lo,u32 d.hi]
structure jn where
 v:Int
 lo:Nat
 hi:Nat
 tk:Bool
 c:Nat
def jn.row(p:jn):List zV:=[iv p.v,u32 p.lo,u32 p.hi,.bool p.tk,.int .u8 (p.c:Int)]
def dh(N:cY)(r:Nat):Bool:=decide (r<2)||(N r).isSome
theorem bF{N:cY}{r:Nat}:dh N r=true↔live N r:=by
 unfold dh live;rw[xby,xaD,Option.isSome_iff_exists]
def got(N:cY)(r:Nat):List zV:=
 if r<2 then [iv (-1),u32 r,u32 r]else match N r with|some d=>dQ d|none=>[iv 0,u32 0,u32 0]
theorem dL{N:cY}{r:Nat}{d:Nd}(h:N r=some d)(h2:2<=r):got N r=dQ d:=by unfold got;rw[xab zO,h]
theorem eE{N:cY}{r:Nat}(h2:r<2):got N r=[iv (-1),u32 r,u32 r]:=by unfold got;rw[xae h2]
theorem q7{N:cY}{r:Nat}(h:dh N r=false):got N r=[iv 0,u32 0,u32 0]:=by
 unfold dh at h;rw[xar,xaU]at h;unfold got;rw[xab h.1];cases hN:N r with
 |none=>rfl
 |some d=>rw[hN]at h;simp at h
def wD(p:jn):Option Nd:=if p.tk then some ⟨p.v.toNat,p.lo,p.hi⟩else none
structure r5(l:List jn)(fr:zL)(cap used:Nat)(N:cY):Prop where
 cap:l.length<=cap/\cap<=1048576
 two:2<=l.length
 const:∀r,r<2->∃p,l[r]? =some p/\p.v= -1/\p.lo=r/\p.hi=r/\p.tk=true
 nd:∀r,2<=r->N r=(l[r]?).bind wD
 n0:∀r,r<2->N r=none
 nn:∀(r:Nat) p,2<=r->l[r]? =some p->p.tk=true->0<=p.v
 Ep:fr.Nodup
 iK:∀r,r∈fr↔∃p,l[r]? =some p/\p.tk=false
 used:used+fr.length=l.length
theorem r5.u5{l:List jn}{fr:zL}{cap used:Nat}{N:cY}(h:r5 l fr cap used N)(r:Nat):dh N r=(match l[r]? with|some p=>p.tk|none=>false):=by
 unfold dh;by_cases h2:r<2
 ·obtain⟨p,hp,_,_,_,ht⟩:=h.const r h2;simp[h2,hp,ht]
 rw[h.nd r zO];cases hl:l[r]? with
 |none=>simp[h2]
 |some p=>cases ht:p.tk<;>simp[h2,wD,ht]
theorem r5.Lj{l:List jn}{fr:zL}{cap used:Nat}{N:cY}(h:r5 l fr cap used N){r:Nat}{p:jn}(hp:l[r]? =some p)(ht:p.tk=true):got N r=p.row.take 3:=by
 by_cases h2:r<2
 ·obtain⟨p',hp',h1,nO,h3,_⟩:=h.const r h2;rw[hp]at hp';cases hp';rw[eE h2];simp[jn.row,h1,nO,h3]
 have hn:=h.nn r p zO hp ht;rw[dL (d:=⟨p.v.toNat,p.lo,p.hi⟩) (by rw[h.nd r zO,hp];simp[wD,ht]) zO];simp[dQ,jn.row,Int.toNat_of_nonneg hn]
theorem r5.lt{l:List jn}{fr:zL}{cap used:Nat}{N:cY}(h:r5 l fr cap used N){r:Nat}(hr:live N r):r<l.length:=by
 have:=bF.2 hr;rw[h.u5]at this;cases hl:l[r]? with
 |none=>rw[hl]at this;simp at this
 |some p=>exact(xag.1 hl).1
def eX(pa cap used:Nat)(N:cY)(C:Hp):Prop:=
 ∃vl vf l fr Cl Cf,C=(pa,.cells #[iv (cap:Int),vl,vf,iv (used:Int)] 199 zZ)::(Cl++Cf)/\
  ay 203 5 vl (l.map jn.row) Cl/\aO 82 .u32 vf (fr.map (Nat.cast:Nat->Int)) Cf/\r5 l fr cap used N
abbrev ptr(b:Nat):zV:=.pointer (some ⟨b,0,none⟩)
theorem row_one(p:jn):∀x∈p.row,x.oneCell'=true:=by intro x hx;simp[jn.row,u32]at hx;rcases hx with rfl|rfl|rfl|rfl|rfl<;>rfl
theorem jt{pa cap used r:Nat}{N:cY}{C:Hp}(h:eX pa cap used N C)(hr:r<4294967296):
  Rd zQ 256 #[ptr pa,u32 r] C (· =.bool (dh N r)):=by
 obtain⟨vl,vf,l,fr,Cl,Cf,rfl,hl,hf,ho⟩:=h;refine aW λg=>s7 (bj.q (Nil.ptr ?_));refine ag.mk (Ld.mk zM rfl ?_);refine hl.c6 (ae.fN ?_);rw[xav];rw[ho.u5 r];refine bL.and (match l[r]? with|some p=>p.tk|none=>false) (λhlt=>?_) rfl λ_=>bS.mk (.refl _) ?_
 ·have lZ:=xbV hlt;apply Nil.ptr;refine ag.mk (Ld.mk zM rfl ?_);have hg:l[r]? =some l[r]:=xad lZ;refine hl.EV (r:=l[r].row) (x:=.bool l[r].tk) (by rw[xaB,hg];rfl) rfl (λ_ h=>by exact .tail _ (xac _ h)) ?_;exact⟨rfl,by rw[hg]⟩
 congr 1;by_cases hlt:r<l.length
 ·simp[hlt]
 rw[xaM zO];simp
theorem AW{pa cap used r:Nat}{N:cY}{C:Hp}(h:eX pa cap used N C)(hr:r<4294967296):
  Rd zQ 212 #[ptr pa,u32 r] C (· =.tuple #[.agg (got N r).toArray,iv (if dh N r then 0 else 3)]):=by
 have h0:=h;obtain⟨vl,vf,l,fr,Cl,Cf,rfl,hl,hf,ho⟩:=h;refine aW λg=>tw λb1 _=>?_;refine ae.bB (Br.no (aa.eq (jt h0 hr) (Un.not (Br.mk (λhb=>?_) (λhb=>?_)))))
 ·have hb':dh N r=false:=by simpa using hb
  refine Build.mk (cs:=[iv 0,.int .u32 0,.int .u32 0]) zK (St.q ?_);refine az.q ?_;exact bS.mk .tail (by rw[q7 hb',hb'];rfl)
 have hb':dh N r=true:=by simpa using hb
 have hx:=hb';rw[ho.u5]at hx;cases hg:l[r]? with
 |none=>rw[hg]at hx;simp at hx
 |some p=>
 rw[hg]at hx;simp only at hx;apply Nil.ptr;refine ag.mk (Ld.mk zM rfl ?_);refine hl.EU (r:=p.row) (by rw[xaB,hg];rfl) zD (λ_ h=>by exact .tail _ (.tail _ (xac _ h))) ?_;refine St.p (λx hx=>row_one p x (xc5 hx)) ?_;refine az.q ?_;exact bS.mk .tail (by rw[ho.Lj hg hx,hb'];rfl)
structure LA(N:cY)(d:Nd):Prop where
 v:d.v<64
 lo:live N d.lo
 hi:live N d.hi
theorem eX.lt{pa cap used r:Nat}{N:cY}{C:Hp}(h:eX pa cap used N C)(hr:live N r):r<cap/\cap<=1048576:=by
 obtain⟨vl,vf,l,fr,Cl,Cf,rfl,hl,hf,ho⟩:=h;exact⟨xbr (ho.lt hr) ho.cap.1,ho.cap.2⟩
theorem xJ{pa cap used:Nat}{N:cY}{C:Hp}{d:Nd}(h:eX pa cap used N C)(hd:LA N d):
  Rd zQ 232 #[ptr pa,.agg (dQ d).toArray] C (· =iv 0):=by
 have hlo:=h.lt hd.lo;have hhi:=h.lt hd.hi;refine aW λg=>th λb1 _=>?_;refine Ld.f ?_;refine ae.lss (bL.or (decide (64<=d.v)) (λ_=>?_) rfl λ_=>?_)
 ·refine Ld.f ?_;exact ae.n5 (b:=64) ⟨rfl,rfl⟩
 have hv:=hd.v;refine Br.JV zP λJ hJ=>?_;refine Ld.f ?_;refine aa.eq (jt h zO) ?_;rw[bF.2 hd.lo];refine Un.not (Split.go rfl (Ld.f ?_));refine aa.eq (jt h zO) ?_;rw[bF.2 hd.hi];refine Un.not (bX.mk (JE.mk (hJ _ _ λgs=>Br.no (bS.mk .tail rfl))))
theorem EN{pa cap used r:Nat}{N:cY}{C:Hp}(h:eX pa cap used N C)(hr:∃d,N r=some d)(h2:2<=r):
  Rd zQ 214 #[ptr pa,u32 r] C (· =iv 0):=by
 have hl:=h.lt (.inr hr);refine aW λg=>tt λJ hJ=>?_;refine ae.ET (b:=1) (Split.go zP ?_);refine aa.eq (jt h zO) ?_;rw[bF.2 (.inr hr)];refine Un.not (bX.mk (JE.mk (hJ _ _ λgs=>Br.no (bS.mk (.refl _) rfl))))
theorem BM{pa cap used:Nat}{N:cY}{C:Hp}(h:eX pa cap used N C):Rd zQ 146 #[ptr pa] C (· =iv (used:Int)):=by
 obtain⟨vl,vf,l,fr,Cl,Cf,rfl,hl,hf,ho⟩:=h;refine aW λg=>tY (ae.bB (Br.no (Nil.ptr ?_)));refine ag.mk (Ld.mk zM rfl ?_);exact bS.mk (.refl _) rfl
theorem sR{pa cap used:Nat}{N:cY}{C:Hp}(h:eX pa cap used N C):Rd zQ 230 #[ptr pa] C (· =iv (cap:Int)):=by
 obtain⟨vl,vf,l,fr,Cl,Cf,rfl,hl,hf,ho⟩:=h;refine aW λg=>tn (ae.bB (Br.no (Nil.ptr ?_)));refine ag.mk (Ld.mk zM rfl ?_);exact bS.mk (.refl _) rfl
end
section
open au
section
variable {l:List jn} {fr:zL} {cap used:Nat} {N:cY}
theorem zN(d:Nd){c:Nat}:wD ⟨(d.v:Int),d.lo,d.hi,true,c⟩=some d:=by simp[wD]
theorem r5.reuse(h:r5 l fr cap used N){r:Nat}(hr:r∈fr){fr':zL}(hf:fr.Perm (r::fr'))(d:Nd):
  2<=r/\r<cap/\N r=none/\r5 (l.set r ⟨(d.v:Int),d.lo,d.hi,true,0⟩) fr' cap (used+1) (up N r (some d)):=by
 obtain⟨p,hp,ht⟩:=(h.iK r).1 hr;have hlt:=(xag.1 hp).1;have h2:2<=r:=by
  apply Decidable.byContradiction;intro hn;obtain⟨p',hp',_,_,_,ht'⟩:=h.const r zO;rw[hp]at hp';cases hp';rw[ht]at ht';cases ht'
 have n3:=hf.nodup_iff.1 h.Ep;rw[xaT]at n3;refine⟨h2,xbr hlt h.cap.1,by rw[h.nd r h2,hp];simp[wD,ht],?_⟩;have er:∀s,s≠r->(l.set r ⟨(d.v:Int),d.lo,d.hi,true,0⟩)[s]? =l[s]? :=λs hs=>xbw (xbQ hs);have wY:(l.set r ⟨(d.v:Int),d.lo,d.hi,true,0⟩)[r]? =some ⟨(d.v:Int),d.lo,d.hi,true,0⟩:=xbm hlt;exact {
  cap:=by simpa using h.cap
  two:=by simpa using h.two
  const:=λs hs=>by rw[er s zO];exact h.const s hs
  nd:=λs hs=>by
   by_cases e:s=r
   ·subst e;rw[aE,wY];exact(zN d).symm
   rw[aJ e,er s e];exact h.nd s hs
  n0:=λs hs=>by rw[aJ zO];exact h.n0 s hs
  nn:=λs q hs hq Df=>by
   by_cases e:s=r
   ·subst e;rw[wY]at hq;cases hq;exact xbp _
   rw[er s e]at hq;exact h.nn s q hs hq Df
  Ep:=n3.2
  iK:=λs=>by
   by_cases e:s=r
   ·subst e;rw[wY];simp[n3.1]
   rw[er s e,<-h.iK s,hf.mem_iff];simp[e]
  used:=by have:=h.used;have:=hf.length_eq;simp only[xai,xb9]at*;omega}
theorem r5.grow(h:r5 l [] cap used N)(hlt:l.length<cap)(d:Nd):
  2<=l.length/\N l.length=none/\r5 (l++[⟨(d.v:Int),d.lo,d.hi,true,0⟩]) [] cap (used+1) (up N l.length (some d)):=by
 have h2:=h.two;refine⟨h2,by rw[h.nd _ h2,xaM (xak _)];rfl,?_⟩;have er:∀s,s≠l.length->(l++[(⟨(d.v:Int),d.lo,d.hi,true,0⟩:jn)])[s]? =l[s]? :=λs hs=>by
  rw[xc4];split
  ·rfl
  rw[xaM zP,xaM zO]
 have wY:(l++[(⟨(d.v:Int),d.lo,d.hi,true,0⟩:jn)])[l.length]? =some ⟨(d.v:Int),d.lo,d.hi,true,0⟩:=by simp
 exact {
  cap:=by simp;exact⟨hlt,h.cap.2⟩
  two:=by simp;omega
  const:=λs hs=>by rw[er s zO];exact h.const s hs
  nd:=λs hs=>by
   by_cases e:s=l.length
   ·subst e;rw[aE,wY];exact(zN d).symm
   rw[aJ e,er s e];exact h.nd s hs
  n0:=λs hs=>by rw[aJ zO];exact h.n0 s hs
  nn:=λs q hs hq Df=>by
   by_cases e:s=l.length
   ·subst e;rw[wY]at hq;cases hq;exact xbp _
   rw[er s e]at hq;exact h.nn s q hs hq Df
  Ep:=h.Ep
  iK:=λs=>by
   by_cases e:s=l.length
   ·subst e;rw[wY];simp
   rw[er s e];exact h.iK s
  used:=by have:=h.used;simp at*;omega}
theorem r5.free(h:r5 l fr cap used N){r:Nat}{p:jn}(h2:2<=r)(hp:l[r]? =some p)(ht:p.tk=true):
  r5 (l.set r ⟨0,0,0,false,0⟩) (fr++[r]) cap (used-1) (up N r none)/\0<used:=by
 have hlt:=(xag.1 hp).1;have er:∀s,s≠r->(l.set r ⟨0,0,0,false,0⟩)[s]? =l[s]? :=λs hs=>xbw (xbQ hs);have wY:(l.set r ⟨0,0,0,false,0⟩)[r]? =some ⟨0,0,0,false,0⟩:=xbm hlt;have L5:r∉fr:=λhm=>by obtain⟨q,hq,Df⟩:=(h.iK r).1 hm;rw[hp]at hq;cases hq;rw[ht]at Df;cases Df
 have hu:fr.length<l.length:=by
  have hn:(r::fr).Nodup:=xaT.2 ⟨L5,h.Ep⟩;have:=bG (l:=r::fr) (l':=List.range l.length) hn λs hs=>by
   rw[xaP];rcases xaf.1 hs with rfl|hs
   ·exact hlt
   obtain⟨q,hq,_⟩:=(h.iK s).1 hs;exact(xag.1 hq).1
  rw[xbN]at this;exact this
 have F8:=h.used;refine⟨?_,by omega⟩;exact {
  cap:=by simpa using h.cap
  two:=by simpa using h.two
  const:=λs hs=>by rw[er s zO];exact h.const s hs
  nd:=λs hs=>by
   by_cases e:s=r
   ·subst e;rw[aE,wY];rfl
   rw[aJ e,er s e];exact h.nd s hs
  n0:=λs hs=>by rw[aJ zO];exact h.n0 s hs
  nn:=λs q hs hq Df=>by
   by_cases e:s=r
   ·subst e;rw[wY]at hq;cases hq;cases Df
   rw[er s e]at hq;exact h.nn s q hs hq Df
  Ep:=by rw[xbL];exact⟨h.Ep,by simp,λa ha c hc=>by simp at hc;subst hc;intro e;subst e;exact L5 ha⟩
  iK:=λs=>by
   rw[xaw,xaH];by_cases e:s=r
   ·subst e;rw[wY];simp
   rw[er s e,<-h.iK];simp[e]
  used:=by simp;omega}
end
theorem kY(l:List jn)(r:Nat)(p:jn):(l.map jn.row).set r p.row=(l.set r p).map jn.row:=by rw[xda]
theorem BO{pa cap used:Nat}{N:cY}{C:Hp}{d:Nd}(h:eX pa cap used N C)(hd:LA N d)(hroom:used<cap):
  Fc zQ 254 #[ptr pa,.agg (dQ d).toArray] C (λv C'=>∃r,v=.tuple #[u32 r,iv 0]/\2<=r/\r<cap/\N r=none/\eX pa cap (used+1) (up N r (some d)) C'):=by
 have h0:=h;obtain⟨vl,vf,l,fr,Cl,Cf,rfl,hl,hf,ho⟩:=h;have hcap:=ho.cap;have As:=ho.used;refine aW λg=>s9 λb1 _=>?_;refine ae.bB (Br.no (az.q ?_));refine aa.eq (xJ h0 hd) (ae.j7 (Br.F (Nil.ptr ?_)));refine ag.mk (Ld.mk zM rfl ?_);refine hf.c6 ?_;rw[xav];refine ae.mY (b:=0) (Br.dec (λhp=>?_) (λhp=>?_))
 ·obtain⟨fr',r,rfl⟩:∃fr' r,fr=fr'++[r]:=⟨fr.dropLast,fr.getLast (by intro e;simp[e]at hp),(xdk _).symm⟩;simp only[xaq,xai,xa5]at hp As⊢;obtain⟨g1,g2,g3,hok⟩:=ho.reuse (r:=r) zI (fr':=fr') (by exact List.perm_append_singleton _ _) d;apply Nil.ptr;refine ag.mk (Ld.mk zM rfl ?_);refine ae.qp (a:=fr'.length+1) (b:=1) ?_;rw[xcF];refine hf.ld (i:=fr'.length) (x:=(r:Int)) zI (λ_ h=>by exact .tail _ (.tail _ (xaa _ h))) (Nil.ptr ?_);refine ag.mk (Ld.mk zM rfl ?_);refine ae.qp (a:=fr'.length+1) (b:=1) ?_;rw[xcF];refine hf.cut (i:=fr'.length) zI λv' wZ=>?_;have vq:aO 82 .u32 v' (fr'.map (Nat.cast:Nat->Int)) Cf:=by
   rw[xaz,List.take_left' zI]at wZ;exact wZ
  have hone:v'.oneCell'=true:=by obtain⟨a,c,e⟩:=ay.len vq;rw[e];rfl
  refine Nil.ptr (ag.mk (St.one (by exact .tail (.head _)) hone zI rfl ?_));refine DR.self (Nil.ptr (Ld.f ?_));refine az.q ?_;refine Build.mk (cs:=(jn.mk (d.v:Int) d.lo d.hi true 0).row) zK (hl.zo (A:=[_,_]) (B:=Cf) (i:=r) (by rw[xav];have:=(ho.iK r).1 zI;obtain⟨p,hp,_⟩:=this;exact(xag.1 hp).1) rfl (row_one _) λC' hl'=>?_);rw[kY]at hl';simp only[xaF,xa2];refine Nil.ptr (Ld.f ?_);refine ae.inc (Nil.ptr (ag.mk (St.one (by exact .tail (.head _)) rfl zI rfl ?_)));exact aZ.mk .tail ⟨r,rfl,g1,g2,g3,vl,v',_,fr',C',Cf,rfl,hl',vq,hok⟩
 obtain rfl:fr=[]:=xbO zO;simp only[xa5]at As;obtain⟨g1,g3,hok⟩:=ho.grow zO d;apply Nil.ptr;refine ag.mk (Ld.mk zM rfl ?_);refine hl.c6 ?_;rw[xav];apply Nil.ptr;refine ag.mk (Ld.mk zM rfl ?_);refine ae.n5 (Br.F (DR.of (R:=(b1,.cells (List.toArray (dQ d)) 201 zZ)::(pa,.cells #[iv (cap:Int),vl,vf,iv (used:Int)] 199 zZ)::[]) (.cons (.cons .nil)) (Nil.ptr ?_)));refine ag.mk (Ld.mk zM rfl ?_);refine az.q ?_;refine Build.mk (cs:=(jn.mk (d.v:Int) d.lo d.hi true 0).row) zK (ak.one (z:=.agg #[iv 0,.int .u32 0,.int .u32 0,.bool false,.int .u8 0]) (e:=203) (k:=5) zK zK zK zD rfl λbx=>?_);refine⟨.skip (.cons (.cons .nil)),?_⟩;refine hl.DG (A:=[_,_,_]) (B:=Cf) (r:=(jn.mk (d.v:Int) d.lo d.hi true 0).row) (by exact .head _) rfl (row_one _) (by exact⟨[iv 0,.int .u32 0,.int .u32 0,.bool false,.int .u8 0],rfl,rfl⟩) zP zP λv' C' hl'=>?_;have vi:ay 203 5 v' ((l++[(⟨(d.v:Int),d.lo,d.hi,true,0⟩:jn)]).map jn.row) C':=by rw[xaz];exact hl'
 simp only[xaF,xa2];refine⟨.skip (.cons (.cons .nil)),?_⟩;have hone:v'.oneCell'=true:=by obtain⟨a,c,e⟩:=vi.len;rw[e];rfl
 refine Nil.ptr (ag.mk (St.one (by exact .tail (.tail (.head _))) hone zI rfl ?_));refine Nil.ptr (Ld.f ?_);refine ae.inc (Nil.ptr (ag.mk (St.one (by exact .tail (.tail (.head _))) rfl zI rfl ?_)));refine Nil.ptr (Ld.f ?_);refine vi.c6 (ae.ju (b:=1) (by simp[cv];omega) zI (bj.q (aZ.mk (.skip .tail) ⟨l.length,by simp[u32],g1,by omega,g3,v',vf,_,[],C',Cf,rfl,vi,hf,hok⟩)))
theorem BQ{pa cap used r:Nat}{N:cY}{C:Hp}(h:eX pa cap used N C)(hr:∃e,N r=some e)(h2:2<=r):
  Fc zQ 168 #[ptr pa,u32 r] C (λv C'=>v=iv 0/\eX pa cap (used-1) (up N r none) C'):=by
 have h0:=h;obtain⟨vl,vf,l,fr,Cl,Cf,rfl,hl,hf,ho⟩:=h;have hx:=bF.2 (.inr hr:live N r);rw[ho.u5]at hx;obtain⟨p,hg,hx⟩:∃p,l[r]? =some p/\p.tk=true:=by
  cases hg:l[r]? with
  |none=>rw[hg]at hx;simp at hx
  |some p=>rw[hg]at hx;exact⟨p,rfl,hx⟩
 obtain⟨hok,Nu⟩:=ho.free h2 hg hx;have hcap:=ho.cap;have As:=ho.used;refine aW λg=>tM (ae.bB (Br.no (aa.eq (EN h0 hr h2) (ae.j7 (Br.F (Nil.ptr ?_))))));refine ag.mk (Ld.mk zM rfl ?_);refine Build.mk (cs:=(jn.mk 0 0 0 false 0).row) zK (hl.zo (A:=[_]) (B:=Cf) (i:=r) (by rw[xav];exact(xag.1 hg).1) rfl (row_one _) λC' hl'=>?_);rw[kY]at hl';simp only[xaF,xa2];refine Nil.ptr (Ld.f ?_);refine ak.int (e:=82) zK zK zK λbx=>?_;have e1:(bx,Obj.cells (aq .u32 [(r:Int)]) 82 zZ)::(pa,Obj.cells #[iv (cap:Int),vl,vf,iv (used:Int)] 199 zZ)::(C'++Cf)=(bx,Obj.cells (aq .u32 [(r:Int)]) 82 zZ)::(pa,Obj.cells #[iv (cap:Int),vl,vf,iv (used:Int)] 199 zZ)::C'++(Cf++[]):=by simp
 rw[e1];refine hf.app (x:=(r:Int)) (B:=[]) (by exact .head _) zP zP λv' MM wZ=>?_;have vq:aO 82 .u32 v' ((fr++[r]).map (Nat.cast:Nat->Int)) MM:=by rw[xaz];exact wZ
 have hone:v'.oneCell'=true:=by obtain⟨a,c,e⟩:=ay.len vq;rw[e];rfl
 simp only[xaF,xaR];refine Nil.ptr (ag.mk (St.one (by exact .tail (.head _)) hone zI rfl ?_));refine Nil.ptr (Ld.f ?_);refine ae.qp (b:=1) (Nil.ptr (ag.mk (St.one (by exact .tail (.head _)) rfl zI rfl ?_)));exact aZ.mk .tail ⟨rfl,vl,v',_,_,C',MM,rfl,hl',vq,hok⟩
def nK(d:Nd):zV:=.agg (dQ d).toArray
abbrev DU(v:zV)(r:Nat):Prop:=v=u32 r
theorem ow(a b:Nd):vY zQ 201 (nK a) (nK b) (decide (a=b)):=by
 refine vY.flat (fs:=#[⟨"Var",3,0,false, "", "",0⟩,⟨"Lo",82,1,false, "", "",8⟩,⟨"Hi",82,2,false, "", "",12⟩]) zK zK ?_ ?_
 ·intro f hf;simp only[xaf,xat,xaZ]at hf;rcases hf with rfl|rfl|rfl
  ·exact⟨by decide,_,_,rfl,rfl,.inl ⟨.i64,_,_,by kernel_rfl,rfl,rfl⟩⟩
  ·exact⟨by decide,_,_,rfl,rfl,.inl ⟨.u32,_,_,by kernel_rfl,rfl,rfl⟩⟩
  exact⟨by decide,_,_,rfl,rfl,.inl ⟨.u32,_,_,by kernel_rfl,rfl,rfl⟩⟩
 obtain⟨a1,a2,a3⟩:=a;obtain⟨b1,b2,b3⟩:=b;simp[dQ,u32];omega
theorem j8(a:Nd):jl zQ 201 (nK a):=by
 refine jl.flat (fs:=#[⟨"Var",3,0,false, "", "",0⟩,⟨"Lo",82,1,false, "", "",8⟩,⟨"Hi",82,2,false, "", "",12⟩]) zK ?_;intro f hf;simp only[xaf,xat,xaZ]at hf;rcases hf with rfl|rfl|rfl
 ·exact⟨by decide,_,rfl,.inl ⟨.i64,_,_,by kernel_rfl,rfl,rfl⟩⟩
 ·exact⟨by decide,_,rfl,.inl ⟨.u32,_,_,by kernel_rfl,rfl,rfl⟩⟩
 exact⟨by decide,_,rfl,.inl ⟨.u32,_,_,by kernel_rfl,rfl,rfl⟩⟩
theorem CV(a:Nd):Instr.sameBits 10000 (nK a) (nK a)=true:=iD 9998 (by intro x hx;simp[dQ,u32]at hx;rcases hx with rfl|rfl|rfl<;>exact .inl ⟨_,_,rfl⟩)
structure UM where
 b:Nat
 es:Array MapEntry
 ck:Nat
 l:List (Nd×Nat)
def zY(ms:List UM):Hp:=ms.map λm=>(m.b,.map m.es m.ck)
structure Ce(ms:List UM)(n:Nat)(T:Nd->Option Nat):Prop where
 len:ms.length=n
 dF:∀(v:Nat) m,ms[v]? =some m->bh nK DU m.es m.ck m.l
 var:∀(v:Nat) m,ms[v]? =some m->∀x∈m.l,x.1.v=v
 T:∀d,T d=(ms[d.v]?).bind λm=>aN m.l d
def jR(pt n:Nat)(T:Nd->Option Nat)(C:Hp):Prop:=
 ∃vs Cs ms,C=(pt,.cells #[vs] 159 zZ)::(Cs++zY ms)/\ay 160 1 vs (ms.map λm=>[.map (some m.b)]) Cs/\Ce ms n T
theorem pD{ms:List UM}{v:Nat}{m:UM}(h:ms[v]? =some m):(m.b,Obj.map m.es m.ck)∈zY ms:=xan.2 ⟨m,xaJ h,rfl⟩
theorem pC{es':Array MapEntry}{dO:Nat}{l':List (Nd×Nat)}:∀{ms:List UM} {v:Nat} {m:UM},ms[v]? =some m->cm m.b (.map m.es m.ck) (.map es' dO) (zY ms) (zY (ms.set v ⟨m.b,es',dO,l'⟩))
 | [],v,m,h=>by simp at h
 |x::ms,0,m,h=>by simp at h;subst h;exact .head _
 |x::ms,v+1,m,h=>by simp at h;exact .tail (pC h)
theorem oD{ms:List UM}{v:Nat}{m m':UM}(h:ms[v]? =some m)(hb:m'.b=m.b):(ms.set v m').map (λm=>[Value.map (some m.b)])=ms.map λm=>[Value.map (some m.b)]:=by
 rw[xda];apply xbM;intro j;rw[xbW];split
 ·rename_i e;subst e;have hlt:=(xag.1 h).1;have e2:ms[v]=m:=by rw[xad hlt]at h;exact xbd h
  simp[hb,hlt,e2]
 rfl
theorem Ce.add{ms:List UM}{n:Nat}{T:Nd->Option Nat}(h:Ce ms n T){d:Nd}{m:UM}(hm:ms[d.v]? =some m){es':Array MapEntry}{dO r:Nat}(he:bh nK DU es' dO (bQ m.l d r)):Ce (ms.set d.v ⟨m.b,es',dO,bQ m.l d r⟩) n (uK T d (some r)) where
 len:=by rw[xb9];exact h.len
 dF:=λv m' hm'=>by
  rw[xbW]at hm';split at hm'
  ·split at hm'
   ·cases hm';exact he
   cases hm'
  exact h.dF v m' hm'
 var:=λv m' hm' x hx=>by
  rw[xbW]at hm';split at hm'
  ·rename_i e;split at hm'
   ·cases hm';subst e;simp only[bQ]at hx;split at hx
    ·obtain⟨y,hy,rfl⟩:=xan.1 hx;split
     ·rfl
     exact h.var _ m hm y hy
    rcases xaw.1 hx with hx|hx
    ·exact h.var _ m hm x hx
    simp at hx;subst hx;rfl
   cases hm'
  exact h.var v m' hm' x hx
 T:=λe=>by
  have hlt:=(xag.1 hm).1;by_cases ee:e=d
  ·subst ee;rw[jq,xbm hlt];simp[bA]
  rw[ph ee,h.T e];by_cases ev:d.v=e.v
  ·rw[<-ev,xbm hlt,hm];simp[bA,ee]
  rw[xbw ev]
theorem Ce.del{ms:List UM}{n:Nat}{T:Nd->Option Nat}(h:Ce ms n T){d:Nd}{m:UM}(hm:ms[d.v]? =some m){es':Array MapEntry}{dO:Nat}(he:bh nK DU es' dO (nV m.l d)):Ce (ms.set d.v ⟨m.b,es',dO,nV m.l d⟩) n (uK T d none) where
 len:=by rw[xb9];exact h.len
 dF:=λv m' hm'=>by
  rw[xbW]at hm';split at hm'
  ·split at hm'
   ·cases hm';exact he
   cases hm'
  exact h.dF v m' hm'
 var:=λv m' hm' x hx=>by
  rw[xbW]at hm';split at hm'
  ·rename_i e;split at hm'
   ·cases hm';subst e;exact h.var _ m hm x (xca.1 hx|>.1)
   cases hm'
  exact h.var v m' hm' x hx
 T:=λe=>by
  have hlt:=(xag.1 hm).1;by_cases ee:e=d
  ·subst ee;rw[jq,xbm hlt];simp[oC]
  rw[ph ee,h.T e];by_cases ev:d.v=e.v
  ·rw[<-ev,xbm hlt,hm];simp[oC,ee]
  rw[xbw ev]
theorem jZ{pt n v:Nat}{T:Nd->Option Nat}{C:Hp}(h:jR pt n T C)(hv:v<n):Rd zQ 213 #[ptr pt,iv (v:Int)] C (· =iv 0):=by
 obtain⟨vs,Cs,ms,rfl,hs,ho⟩:=h;refine aW λg=>tu (ae.bB (Br.no (ae.lss ?_)));rw[xay (by omega:¬((v:Int)<0))];refine bL.or false (λ_=>?_) rfl λ_=>Br.no (bS.mk (.refl _) rfl);apply Nil.ptr;refine ag.mk (Ld.mk zM rfl ?_);refine hs.c6 ?_;rw[xav,ho.len];exact ae.n5 ⟨rfl,by rw[xay zO]⟩
theorem Dy{pt n:Nat}{T:Nd->Option Nat}{C:Hp}{d:Nd}(h:jR pt n T C)(hv:d.v<n):
  Rd zQ 231 #[ptr pt,nK d] C (· =.tuple #[u32 ((T d).getD 0),.bool (T d).isSome]):=by
 have h0:=h;obtain⟨vs,Cs,ms,rfl,hs,ho⟩:=h;obtain⟨m,hm⟩:∃m,ms[d.v]? =some m:=⟨_,xad (by rw[ho.len];exact hv)⟩;refine aW λg=>tj λb1 _=>?_;refine Ld.f ?_;refine aa.eq (jZ h0 hv) (ae.j7 (Br.F (Nil.ptr ?_)));refine ag.mk (Ld.mk zM rfl ?_);refine Ld.f ?_;refine hs.F6 (x:=.map (some m.b)) (by rw[xaB,hm];rfl) (λ_ h=>by exact .tail _ (.tail _ (xac _ h))) ?_;refine az.q ?_;have hmem:(m.b,Obj.map m.es m.ck)∈(b1,Obj.cells (Value.cells (nK d)) 201 zZ)::(pt,.cells #[vs] 159 zZ)::(Cs++zY ms):=.tail _ (.tail _ (xaa _ (pD hm)));have hT:T d=aN m.l d:=by rw[ho.T,hm];rfl
 rw[hT];cases hg:aN m.l d with
 |some r=>
  refine bh.Dk (ke:=nK) (k:=d) ow j8 (ho.dF _ m hm) hmem hg ?_;rintro v rfl;exact Ext.mk rfl (Ext.mk rfl (bS.mk .tail rfl))
 |none=>
  refine bh.uZ (ke:=nK) (k:=d) ow j8 (ho.dF _ m hm) hmem hg ?_;exact Ext.mk rfl (Ext.mk rfl (bS.mk .tail rfl))
theorem Cp{pt n r:Nat}{T:Nd->Option Nat}{C:Hp}{d:Nd}(h:jR pt n T C)(hv:d.v<n)(hT:T d=none):
  Fc zQ 192 #[ptr pt,nK d,u32 r] C (λv C'=>v=iv 0/\jR pt n (uK T d (some r)) C'):=by
 have h0:=h;obtain⟨vs,Cs,ms,rfl,hs,ho⟩:=h;obtain⟨m,hm⟩:∃m,ms[d.v]? =some m:=⟨_,xad (by rw[ho.len];exact hv)⟩;have KR:aN m.l d=none:=by rw[ho.T,hm]at hT;exact hT
 refine aW λg=>tF λb1 _=>?_;refine Ld.f ?_;refine aa.eq (jZ h0 hv) (ae.j7 (Br.F (Nil.ptr ?_)));refine ag.mk (Ld.mk zM rfl ?_);refine Ld.f ?_;refine hs.F6 (x:=.map (some m.b)) (by rw[xaB,hm];rfl) (λ_ h=>by exact .tail _ (.tail _ (xac _ h))) ?_;refine az.q ?_;have hmem:(m.b,Obj.map m.es m.ck)∈(b1,Obj.cells (Value.cells (nK d)) 201 zZ)::(pt,.cells #[vs] 159 zZ)::(Cs++zY ms):=.tail _ (.tail _ (xaa _ (pD hm)));refine bh.uZ (ke:=nK) (k:=d) ow j8 (ho.dF _ m hm) hmem KR ?_;refine Ext.mk rfl (Ext.mk rfl (Br.no (DR.self (Nil.ptr ?_))));refine ag.mk (Ld.mk zM rfl ?_);refine Ld.f ?_;refine hs.F6 (x:=.map (some m.b)) (by rw[xaB,hm];rfl) (λ_ h=>by exact .tail _ (.tail _ (xac _ h))) ?_;refine az.q ?_;refine bh.Cn (ke:=nK) (k:=d) (vr:=DU) (x:=r) ow j8 CV (ho.dF _ m hm) rfl λes' dO he=>⟨_,.tail (.tail ((pC (l':=bQ m.l d r) hm).ax Cs)),?_⟩;exact aZ.mk .tail ⟨rfl,vs,Cs,_,rfl,by rw[oD hm];exact hs;rfl,ho.add hm he⟩
theorem wz{pt n r:Nat}{T:Nd->Option Nat}{C:Hp}{d:Nd}(h:jR pt n T C)(hv:d.v<n)(hT:T d=some r):
  Fc zQ 167 #[ptr pt,nK d] C (λv C'=>v=iv 0/\jR pt n (uK T d none) C'):=by
 have h0:=h;obtain⟨vs,Cs,ms,rfl,hs,ho⟩:=h;obtain⟨m,hm⟩:∃m,ms[d.v]? =some m:=⟨_,xad (by rw[ho.len];exact hv)⟩;have KR:aN m.l d=some r:=by rw[ho.T,hm]at hT;exact hT
 refine aW λg=>tN λb1 _=>?_;refine Ld.f ?_;refine aa.eq (jZ h0 hv) (ae.j7 (Br.F (Nil.ptr ?_)));refine ag.mk (Ld.mk zM rfl ?_);refine Ld.f ?_;refine hs.F6 (x:=.map (some m.b)) (by rw[xaB,hm];rfl) (λ_ h=>by exact .tail _ (.tail _ (xac _ h))) ?_;refine az.q ?_;have hmem:(m.b,Obj.map m.es m.ck)∈(b1,Obj.cells (Value.cells (nK d)) 201 zZ)::(pt,.cells #[vs] 159 zZ)::(Cs++zY ms):=.tail _ (.tail _ (xaa _ (pD hm)));refine bh.Dk (ke:=nK) (k:=d) ow j8 (ho.dF _ m hm) hmem KR ?_;rintro v rfl;refine Ext.mk rfl (Ext.mk rfl (Un.not (Br.no (DR.of (R:=(b1,Obj.cells (Value.cells (nK d)) 201 zZ)::(pt,.cells #[vs] 159 zZ)::Cs) (.cons (.cons .left)) (Nil.ptr ?_)))));refine ag.mk (Ld.mk zM rfl ?_);refine Ld.f ?_;refine hs.F6 (x:=.map (some m.b)) (by rw[xaB,hm];rfl) (λ_ h=>by exact .tail _ (.tail _ h)) ?_;refine az.q ?_;refine bh.Lp (ke:=nK) (k:=d) ow j8 (ho.dF _ m hm) hmem λes' he=>⟨_,.tail (.tail ((pC (l':=nV m.l d) hm).ax Cs)),?_⟩;exact⟨.cons (.cons .left),aZ.mk .tail ⟨rfl,vs,Cs,_,rfl,by rw[oD hm];exact hs;rfl,ho.del hm he⟩⟩
theorem Ce.start(n:Nat)(bs:zL)(h:bs.length=n):Ce (bs.map λb=>⟨b,#[],0,[]⟩) n (λ_=>none) where
 len:=by simpa using h
 dF:=λv m hm=>by
  rw[xaB]at hm;obtain⟨b,_,rfl⟩:=Option.map_eq_some_iff.1 hm;exact bh.empty
 var:=λv m hm x hx=>by
  rw[xaB]at hm;obtain⟨b,_,rfl⟩:=Option.map_eq_some_iff.1 hm;simp at hx
 T:=λd=>by
  rw[xaB];cases bs[d.v]? <;>simp[aN]
theorem ri(x:zV):∀n:Nat,(List.replicate n [x]).flatten=List.replicate n x
 |0=>rfl
 |n+1=>by rw[xb4,xbT,xb4,ri x n];rfl
theorem Co{n:Nat}(hn:1<=n/\n<=64):Fc zQ 47 #[iv (n:Int)] [] (λv H=>∃pt,v=.tuple #[ptr pt,iv 0]/\jR pt n (λ_=>none) H):=by
 refine aW λg=>ym (ae.lss ?_);rw[xay zO];refine bL.or false (λ_=>ae.gtr ⟨rfl,by rw[xay zO]⟩) rfl λ_=>Br.no ?_;refine⟨.i64,.i64,n,n,rfl,rfl,xak _,by omega,by omega,?_⟩;intro bs _;refine Build.mk (cs:=[.slice (some ⟨bs,0,none⟩) n n]) zK λpt _=>?_;have hz:madeCells (Value.cells (.map none)) (n*1)=rows ((List.replicate n [Value.map none])++[]):=by
  apply xb8;apply xbM;intro i;have:=ri (.map none) n;simp only[madeCells,rows,Value.cells,xcN,Array.toList_range,xaB,xde,xb0,xaR];rw[this,xcI];by_cases hi:i<n
  ·simp[hi,Nat.mod_one]
  simp[hi]
 rw[hz];have hs0:ay 160 1 (.slice (some ⟨bs,0,none⟩) n n) (List.replicate n [Value.map none]) [(bs,.cells (rows ((List.replicate n [Value.map none])++[])) 160 zZ)]:=
  ay.mk' (λr hr=>by rw[xaR]at hr;rw[xbq hr];rfl) zI zI
 refine⟨λvs H=>∃(j:Nat) (bl:zL) (Cs:Hp),vs=[iv (j:Int)]/\bl.length=j/\j<=n/\H=(pt,.cells #[.slice (some ⟨bs,0,none⟩) n n] 159 zZ)::(Cs++zY (bl.map λb=>⟨b,#[],0,[]⟩))/\
  ay 160 1 (.slice (some ⟨bs,0,none⟩) n n) ((bl.map λb=>[Value.map (some b)])++List.replicate (n-j) [Value.map none]) Cs,λvs _=>n-dR vs 0,JE.mk ⟨0,[],_,rfl,rfl,by omega,by simp only[zY,xdv,xaR];rfl,by simpa using hs0⟩,?_⟩
 rintro w H ⟨j,bl,Cs,hw,Dr,hj,rfl,hs⟩ gs;simp only[xa0,xdl]at hw;subst hw;refine ae.fN (Br.dec (λhlt=>?_) (λhlt=>?_))
 ·refine Nil.ptr (Ld.f ?_);intro b _;have hlen:((bl.map λb=>[Value.map (some b)])++List.replicate (n-j) [Value.map none]).length=n:=by simp;omega
  refine ay.JS (A:=[_,_]) (B:=zY (bl.map λb=>⟨b,#[],0,[]⟩)) hs (i:=j) (y:=.map none) zO ?_ rfl λC' hs'=>?_
  ·rw[xbS (by simp[Dr])];simp only[xav,Dr,xcj];rw[xcI,xae zO]
  refine ae.inc ?_;have e:((bl.map λb=>[Value.map (some b)])++List.replicate (n-j) [Value.map none]).set j [Value.map (some b)]=((bl++[b]).map λb=>[Value.map (some b)])++List.replicate (n-(j+1)) [Value.map none]:=by
   rw[xck _ _ (by simp[Dr])];simp only[xav,Dr,xcj];rw[show n-j=(n-(j+1))+1 by omega,xb4,xcC,xaz];simp
  rw[e]at hs';refine aR.of ?_ ⟨j+1,bl++[b],C',rfl,by simp[Dr],by omega,rfl,hs'⟩ (by show n-(((j+1:Nat):Int).toNat)<n-(((j:Nat):Int).toNat);omega);refine aM.perm ?_;simp only[xaF,xa2,zY,xaz,xbJ];refine(List.Perm.swap _ _ _).trans (.cons _ ?_);rw[<-xau];exact(List.perm_append_singleton _ _).symm
 obtain rfl:j=n:=by omega
 refine aZ.here ⟨pt,rfl,_,Cs,_,rfl,?_,Ce.start _ bl Dr⟩;rw[xcj]at hs;simpa[xbJ,Function.comp_def]using hs
theorem DH{n:Nat}(hn:2<=n/\n<=1048576):Fc zQ 96 #[iv (n:Int)] [] (λv H=>∃pa,v=.tuple #[ptr pa,iv 0]/\eX pa n 2 (λ_=>none) H):=by
 refine aW λg=>xR (ae.lss ?_);rw[xay zO];refine bL.or false (λ_=>ae.gtr ⟨rfl,by rw[xay zO]⟩) rfl λ_=>Br.no ?_;refine Build.mk (cs:=[iv (n:Int),.slice none 0 0,.slice none 0 0,iv 2]) zK λpa _=>?_;refine⟨λvs H=>∃(j:Nat) (vl:zV) (Cl:Hp),vs=[u32 j]/\j<=2/\H=(pa,.cells #[iv (n:Int),vl,.slice none 0 0,iv 2] 199 zZ)::Cl/\
  ay 203 5 vl ((List.range j).map λr=>(jn.mk (-1) r r true 255).row) Cl,λvs _=>2-dR vs 0,JE.mk ⟨0,_,[],rfl,by omega,rfl,ay.nil _ _⟩,?_⟩
 rintro w H ⟨j,vl,Cl,hw,hj,rfl,hs⟩ gs;simp only[xa0,xdl]at hw;subst hw;refine ae.fN (b:=2) (Br.dec (λhlt=>?_) (λhlt=>?_))
 ·refine Nil.ptr (Ld.f ?_);refine Build.mk (cs:=[iv (-1),u32 j,u32 j]) zK (Build.mk (cs:=(jn.mk (-1) j j true 255).row) zK (ak.one (z:=.agg #[iv 0,.int .u32 0,.int .u32 0,.bool false,.int .u8 0]) (e:=203) (k:=5) zK zK zK zD rfl λbx=>?_));have e1:∀x y:Nat×Obj,x::y::Cl=[x,y]++(Cl++[]):=λx y=>by simp
  rw[e1];refine hs.DG (A:=[_,_]) (B:=[]) (r:=(jn.mk (-1) j j true 255).row) (by exact .head _) rfl (row_one _) (by exact⟨[iv 0,.int .u32 0,.int .u32 0,.bool false,.int .u8 0],rfl,rfl⟩) zP zP λv' C' hs'=>?_;simp only[xaF,xa2,xaR];have hone:v'.oneCell'=true:=by obtain⟨a,c,e⟩:=hs'.len;rw[e];rfl
  refine Nil.ptr (ag.mk (St.one (by exact .tail (.head _)) hone zI rfl ?_));refine ae.inc (aR.of .tail ⟨j+1,v',C',rfl,by omega,rfl,?_⟩ (by show 2-(((j+1:Nat):Int).toNat)<2-(((j:Nat):Int).toNat);omega));rw[xdC,xaz];exact hs'
 obtain rfl:j=2:=by omega
 refine aZ.here ⟨pa,rfl,vl,_,[⟨-1,0,0,true,255⟩,⟨-1,1,1,true,255⟩],[],Cl,[],by rw[xaR];rfl,hs,aO.nil,?_⟩;exact {
  cap:=by simp;omega
  two:=by simp
  const:=λr hr=>by
   have:r=0\/r=1:=by omega
   rcases this with rfl|rfl
   ·exact⟨_,rfl,rfl,rfl,rfl,rfl⟩
   exact⟨_,rfl,rfl,rfl,rfl,rfl⟩
  nd:=λr hr=>by rw[xaM zP];rfl
  n0:=λ_ _=>rfl
  nn:=λr p hr hp _=>by rw[xaM zP]at hp;cases hp
  Ep:=by simp
  iK:=λr=>by
   simp only[xat,false_iff,not_exists,not_and];intro p hp;have hlt:=(xag.1 hp).1;simp at hlt;have:r=0\/r=1:=by omega
   rcases this with rfl|rfl<;>(simp at hp;subst hp;simp)
  used:=rfl}
structure pe where
 pa:Nat
 pt:Nat
 vu:zV
 vh:zV
 vo:zV
 vl:zV
 vt:zV
 CA:Hp
 CT:Hp
 CU:Hp
 CH:Hp
 CO:Hp
 CL:Hp
 CR:Hp
def pe.cells(b:pe)(n:Nat):Array zV:=#[ptr b.pa,ptr b.pt,b.vu,b.vh,iv (n:Int),b.vo,b.vl,b.vt]
def pe.hp(b:pe)(kp n:Nat):Hp:=(kp,.cells (b.cells n) 124 zZ)::(b.CA++(b.CT++(b.CU++(b.CH++(b.CO++(b.CL++b.CR))))))
structure FV(b:pe)(K:Kd)(ord af tr:zL):Prop where
 ar:eX b.pa K.cap K.used K.N b.CA
 ut:jR b.pt K.n K.T b.CT
 us:aO 21 .i32 b.vu (iw K.us) b.CU
 ho:aO 21 .i32 b.vh (iw K.ho) b.CH
 od:aO 3 .i64 b.vo (iw ord) b.CO
 lv:aO 3 .i64 b.vl (iw af) b.CL
 tr:aO 3 .i64 b.vt (iw tr) b.CR
 ul:K.us.length=K.ho.length/\K.us.length<=1048576
 ES:K.n<=64
 ol:ord.length=K.n/\af.length=K.n
def cW(kp:Nat)(K:Kd)(ord af tr:zL)(C:Hp):Prop:=∃b:pe,C=b.hp kp K.n/\FV b K ord af tr
section
variable {kp:Nat} {K:Kd} {ord af tr:zL} {C:Hp}
theorem cW.cap(h:cW kp K ord af tr C):K.cap<=1048576:=by
 obtain⟨b,rfl,hb⟩:=h;exact(hb.ar.lt (r:=0) (.inl zD)).2
theorem cW.lt(h:cW kp K ord af tr C){r:Nat}(hr:live K.N r):r<1048576:=by
 obtain⟨b,rfl,hb⟩:=h;have:=hb.ar.lt hr;omega
theorem aP(N:cY)(r:Nat):(got N r).length=3/\∀x∈got N r,x.oneCell'=true:=by
 unfold got;split
 ·exact⟨rfl,by intro x hx;simp[u32]at hx;rcases hx with rfl|rfl|rfl<;>rfl⟩
 split
 ·exact⟨rfl,by intro x hx;simp[dQ,u32]at hx;rcases hx with rfl|rfl|rfl<;>rfl⟩
 exact⟨rfl,by intro x hx;simp[u32]at hx;rcases hx with rfl|rfl|rfl<;>rfl⟩
theorem gN(h:cW kp K ord af tr C){r:Nat}(hr:r<4294967296):Rd zQ 169 #[ptr kp,u32 r] C (· =.bool (dh K.N r)):=by
 obtain⟨b,rfl,hb⟩:=h;refine aW λg=>tL (Nil.ptr (Ld.f ?_));refine aa.eq (AW hb.ar hr) (Ext.two λb8 _=>(St.whole (r:=got K.N r) (by exact .head _) rfl (aP _ _).1 (aP _ _).2 ?_));refine ae.qd (bS.mk .tail ?_);cases dh K.N r<;>rfl
theorem mP(h:cW kp K ord af tr C){r:Nat}(hr:r<4294967296):Rd zQ 166 #[ptr kp,u32 r] C (· =.agg (got K.N r).toArray):=by
 obtain⟨b,rfl,hb⟩:=h;refine aW λg=>tO λb1 _=>?_;refine Nil.ptr (Ld.f ?_);refine aa.eq (AW hb.ar hr) (Ext.two λrN _=>(St.whole (r:=got K.N r) (by exact .head _) rfl (aP _ _).1 (aP _ _).2 ?_));refine az.whole (r:=got K.N r) (by exact .head _) (aP _ _).1 ?_;refine St.whole (r:=got K.N r) (by exact .tail (.head _)) rfl (aP _ _).1 (aP _ _).2 ?_;refine az.whole (r:=got K.N r) (by exact .tail _ (.head _)) (aP _ _).1 ?_;exact bS.mk (.skip .tail) rfl
theorem Ad(h:cW kp K ord af tr C){m:Nat}(hm:m<=1099511627776)(hu:K.used<=1048576):Rd zQ 187 #[ptr kp,iv (m:Int)] C (· =.bool (decide (K.used+m<=K.cap))):=by
 obtain⟨b,rfl,hb⟩:=h;refine aW λg=>tH (DR.self (Nil.ptr (Ld.f ?_)));refine Nil.ptr (Ld.f ?_);refine aa.eq (BM hb.ar) (⟨.refl _,?_⟩);refine ae.xI (aa.eq (sR hb.ar) (⟨.refl _,?_⟩));exact ae.ET (bS.mk (.refl _) rfl)
def oa(K:Kd)(r:Nat):zL:=if r<2 then K.us else K.us.set r (K.use r+1)
theorem fc(r:Nat):(oa K r).length=K.us.length:=by unfold oa;split<;>simp
theorem qh{r:Nat}(h2:2<=r)(hr:r<K.us.length):(oa K r).getD r 0=K.use r+1:=by
 unfold oa;rw[xab zO];simp[List.getD,hr]
theorem yY{r s:Nat}(h:s≠r):(oa K r).getD s 0=K.use s:=by
 unfold oa Kd.use;split
 ·rfl
 simp[List.getD,xbw (xbQ h)]
theorem yV(h:cW kp K ord af tr C){r:Nat}(hr:r<2\/r<K.us.length)(hb:K.use r+1<2147483648):
  Fc zQ 190 #[ptr kp,u32 r] C (λv C'=>v=.tuple #[]/\cW kp {K with us:=oa K r} ord af tr C'):=by
 obtain⟨b,rfl,hO⟩:=h;refine aW λg=>tG (ae.mY (b:=1) (Br.dec (λh1=>?_) (λh1=>?_)))
 ·have hr':r<K.us.length:=by omega
  refine Nil.ptr (Ld.f ?_);refine hO.us.ld (x:=((K.use r:Nat):Int)) (bV hr') (bf.sub (.cons (.app (.app .left)))) (ae.inc (hO.us.px (.cons (.app (.app .left))) (by simpa using hr') λC' ho=>?_));refine aZ.here ⟨rfl,{b with CU:=C'},rfl,?_⟩;have e:oa K r=K.us.set r (K.use r+1):=by unfold oa;rw[xab zO]
  exact {hO with us:=by rw[fj]at ho;rw[e];exact ho,ul:=by simp only[e,xb9];exact hO.ul}
 refine aZ.here ⟨rfl,b,rfl,?_⟩;have e:oa K r=K.us:=by unfold oa;rw[xae zO]
 rw[e];exact hO
end
section
variable {kp:Nat} {K:Kd} {ord af tr:zL} {C:Hp}
theorem fJ{l:zL}{r s x:Nat}(hr:r<l.length):(l.set r x).getD s 0=if s=r then x else l.getD s 0:=by
 simp only[List.getD,xbW];by_cases e:r=s
 ·subst e;simp[hr]
 rw[xab e,xab (xbQ e)]
theorem m4(l:zL)(s:Nat):(l++[0]).getD s 0=l.getD s 0:=by
 simp only[List.getD,xc4];split
 ·rfl
 rename_i h;rw[xaM (by omega:l.length<=s)];cases hs:s-l.length<;>simp[hs]
def yZ:Hp->Nat
 |_::(_,Obj.cells c _ _)::_=>(match c[2]? with|some (Value.slice _ n _)=>n|_=>0)
 |_=>0
theorem qi{b:pe}{x:Nat×Obj}{n m:Nat}{a:Option Addr}{cp:Nat}(h:b.vu=.slice a m cp):yZ (x::b.hp kp n)=m:=by simp[yZ,pe.hp,pe.cells,h]
theorem Cv(h:cW kp K ord af tr C){d:Nd}(hd:LA K.N d)(hv:d.v<K.n)(hT:K.T d=none)(hroom:K.used<K.cap)(hlo:d.lo<2\/d.lo<K.us.length)(hhi:d.hi<2\/d.hi<K.us.length)
 (hb:∀s,K.use s+2<2147483648):
  Fc zQ 204 #[ptr kp,nK d] C (λv C'=>∃r dy cB,v=u32 r/\K.N r=none/\2<=r/\r<K.cap/\dy.length=cB.length/\r<dy.length/\K.us.length<=dy.length/\dy.getD r 0=0/\
   (∀s,2<=s->s≠r->dy.getD s 0=K.use s+e1 (some d) s)/\(∀s,s<2->dy.getD s 0=K.use s)/\cB.getD r 0=0/\(∀s,s≠r->cB.getD s 0=K.hold s)/\
   cW kp {K with N:=up K.N r (some d),T:=uK K.T d (some r),used:=K.used+1,us:=dy,ho:=cB} ord af tr C'):=by
 have hcap:=h.cap;obtain⟨b,rfl,hO⟩:=h;have Ec:=hO.ul;refine aW λg=>tC λb1 _=>?_;refine DR.of (R:=(b1,.cells (Value.cells (nK d)) 201 zZ)::(kp,.cells (b.cells K.n) 124 zZ)::[]) (.cons (.cons .nil)) (Nil.ptr (Ld.f ?_));refine az.q ?_;refine aa.fq (BO hO.ar hd hroom) ?_;rintro v LL ⟨r,rfl,h2,hrc,hN,har⟩;refine⟨.cons (.cons .nil),Ext.mk rfl (Ext.mk rfl ?_)⟩;refine⟨λ_ H=>∃(b':pe) (dy cB:zL),H=(b1,.cells (Value.cells (nK d)) 201 zZ)::b'.hp kp K.n/\FV b' {K with N:=up K.N r (some d),used:=K.used+1,us:=dy,ho:=cB} ord af tr/\
   K.us.length<=dy.length/\(∀s,dy.getD s 0=K.use s)/\∀s,cB.getD s 0=K.hold s,
  λ_ H=>r+1-yZ H,JE.mk ⟨{b with CA:=LL},K.us,K.ho,rfl,{hO with ar:=har,ul:=Ec},xak _,λ_=>rfl,λ_=>rfl⟩,?_⟩
 rintro H ⟨b',dy,cB,rfl,xe,hle,hu,hh⟩ gs;have Hr:=xe.ul;simp only at Hr;refine bj.q (Nil.ptr (Ld.f ?_));refine xe.us.c6 ?_;rw[aQ];refine ae.n5 (Br.dec (λhge=>?_) (λhge=>?_))
 ·have hge:dy.length<=r:=hge;refine Nil.ptr (Ld.f ?_);refine ak.int (e:=21) zK zK zK λbx=>?_;refine xe.us.n8 (.cons (.cons (.cons (.app (.app .left))))) (by exact .head _) zP zP λLN Cg p9=>?_;refine Nil.ptr (ag.mk (St.one (by exact .tail (.tail (.head _))) p9.one (by simp[pe.cells]) rfl ?_));refine Nil.ptr (Ld.f ?_);refine ak.int (e:=21) zK zK zK λP5=>?_;refine xe.ho.n8 (.cons (.cons (.cons (.cons (.app (.app (.app .left))))))) (by exact .head _) zP zP λLP DP jX=>?_;refine Nil.ptr (ag.mk (St.one (by exact .tail (.tail (.tail (.head _)))) jX.one (by simp[pe.cells]) rfl ?_));have e0:∀l:zL,iw l++[0]=iw (l++[0]):=λl=>by rw[dB];rfl
  rw[e0]at p9 jX;refine aR.of (.skip (.skip (.refl _))) ⟨{b' with vu:=LN,vh:=LP,CU:=Cg,CH:=DP},dy++[0],cB++[0],rfl,{xe with us:=p9,ho:=jX,ul:=by simp at Hr⊢;omega},by simp;omega,λs=>by rw[m4,hu],λs=>by rw[m4,hh]⟩ ?_;obtain⟨a1,c1,e1⟩:=ay.len xe.us;obtain⟨a2,c2,e2⟩:=ay.len p9;have f1:=qi (b:=b') (x:=(b1,.cells (Value.cells (nK d)) 201 zZ)) (kp:=kp) (n:=K.n) e1;have f2:=qi (b:={b' with vu:=LN,vh:=LP,CU:=Cg,CH:=DP}) (x:=(b1,.cells (Value.cells (nK d)) 201 zZ)) (kp:=kp) (n:=K.n) e2;rw[f1];refine xbg (Nat.le_of_eq (xb1 (λz=>r+1-z) f2)) ?_;simp;omega
 have hge:¬dy.length<=r:=hge;have IZ:r<dy.length:=by omega
 have pI:r<cB.length:=by omega
 refine DR.of (R:=(kp,.cells (b'.cells K.n) 124 zZ)::[]) (.skip (.cons .nil)) (Nil.ptr (Ld.f ?_));refine Nil.ptr (Ld.f ?_);refine xe.us.px (x:=0) (.cons (.cons (.app (.app .left)))) (by simpa using IZ) λCg p9=>?_;refine xe.ho.px (x:=0) (.cons (.cons (.app (.app (.app .left))))) (by simpa using pI) λDP jX=>?_;have e0:∀l:zL,(iw l).set r 0=iw (l.set r 0):=λl=>fj l r 0;rw[e0]at p9 jX;have lor:d.lo≠r:=dx hd.lo h2 hN;have NU:d.hi≠r:=dx hd.hi h2 hN;refine Ld.f ?_;have u0:∀s,(dy.set r 0).getD s 0=if s=r then 0 else K.use s:=λs=>by rw[fJ IZ];split;rfl;exact hu s
 have h0:∀s,(cB.set r 0).getD s 0=if s=r then 0 else K.hold s:=λs=>by rw[fJ pI];split;rfl;exact hh s
 have iy:cW kp {K with N:=up K.N r (some d),used:=K.used+1,us:=dy.set r 0,ho:=cB.set r 0} ord af tr (({b' with CU:=Cg,CH:=DP}:pe).hp kp K.n):=⟨_,rfl,{xe with us:=p9,ho:=jX,ul:=by simp;omega}⟩;refine aa.fq (yV iy zP (by have:=hb d.lo;show(dy.set r 0).getD d.lo 0+1<_;rw[u0,xab lor];omega)) ?_;rintro v C1 ⟨rfl,dP⟩;refine Ld.f ?_;have u1:∀s,(oa {K with N:=up K.N r (some d),used:=K.used+1,us:=dy.set r 0,ho:=cB.set r 0} d.lo).getD s 0=(if s=r then 0 else K.use s)+(if 2<=s/\s=d.lo then 1 else 0):=λs=>by
  by_cases e:s=d.lo
  ·by_cases h2:2<=s
   ·rw[xae (show 2<=s/\s=d.lo from⟨h2,e⟩),e,qh zO zP];show(dy.set r 0).getD d.lo 0+1=_;rw[u0]
   rw[xab (show¬(2<=s/\s=d.lo)by omega)];unfold oa;rw[xae zO];show(dy.set r 0).getD s 0=_;rw[u0];rfl
  rw[xab (show¬(2<=s/\s=d.lo)by omega),yY e];show(dy.set r 0).getD s 0=_;rw[u0];rfl
 refine aa.fq (yV dP (by rw[fc];simp;omega) (by
  have:=hb d.hi;show(oa _ d.lo).getD d.hi 0+1<_;rw[u1,xab NU];split<;>omega)) ?_
 rintro v C2 ⟨rfl,qb⟩;have Ou:=qb;obtain⟨b3,rfl,Mn⟩:=qb;refine DR.self (Nil.ptr (Ld.f ?_));refine az.q ?_;refine aa.fq (Cp Mn.ut hv hT) ?_;rintro v LK ⟨rfl,J6⟩;have u2:∀s,(oa {K with N:=up K.N r (some d),used:=K.used+1,us:=oa {K with N:=up K.N r (some d),used:=K.used+1,us:=dy.set r 0,ho:=cB.set r 0} d.lo,ho:=cB.set r 0} d.hi).getD s 0=(if s=r then 0 else K.use s)+(if 2<=s/\s=d.lo then 1 else 0)+(if 2<=s/\s=d.hi then 1 else 0):=λs=>by
  by_cases e:s=d.hi
  ·by_cases h2:2<=s
   ·rw[xae (show 2<=s/\s=d.hi from⟨h2,e⟩),e,qh zO (by rw[fc];simp;omega)];show(oa _ d.lo).getD d.hi 0+1=_;rw[u1]
   rw[xab (show¬(2<=s/\s=d.hi)by omega)];unfold oa;rw[xae zO];show(oa _ d.lo).getD s 0=_;rw[u1];rfl
  rw[xab (show¬(2<=s/\s=d.hi)by omega),yY e];show(oa _ d.lo).getD s 0=_;rw[u1];rfl
 refine aZ.mk .tail ⟨r,_,_,rfl,hN,h2,hrc,?_,?_,?_,?_,?_,?_,?_,?_,{b3 with CT:=LK},rfl,{Mn with ut:=J6}⟩
 ·rw[fc,fc];simp;omega
 ·rw[fc,fc];simp;omega
 ·rw[fc,fc];simp;omega
 ·rw[u2,xae rfl,xab (show¬(2<=r/\r=d.lo)by omega),xab (show¬(2<=r/\r=d.hi)by omega)]
 ·intro s Jp hne;rw[u2,xab hne,ew];have c1:(2<=s/\s=d.lo)↔d.lo=s:=⟨λh=>h.2.symm,λh=>⟨Jp,h.symm⟩⟩;have c2:(2<=s/\s=d.hi)↔d.hi=s:=⟨λh=>h.2.symm,λh=>⟨Jp,h.symm⟩⟩;simp only[c1,c2];omega
 ·intro s hs;rw[u2,xab (show¬s=r by omega),xab (show¬(2<=s/\s=d.lo)by omega),xab (show¬(2<=s/\s=d.hi)by omega)];try simp
 ·rw[h0,xae rfl]
 intro s hne;rw[h0,xab hne]
end
section
variable {kp:Nat} {K:Kd} {ord af tr:zL} {C:Hp} {S:Nat->au.Fn}
structure BT(K' K:Kd):Prop where
 N:∀{s d},K'.N s=some d->K.N s=some d
 n:K'.n=K.n
 cap:K'.cap=K.cap
 ho:K'.ho=K.ho
 us:∀s,K'.use s<=K.use s
 idle:(∀s,K.N s=none->K.use s=0)->∀s,K'.N s=none->K'.use s=0
theorem BT.refl(K:Kd):BT K K:=⟨λh=>h,rfl,rfl,rfl,λ_=>xak _,λh=>h⟩
def PL(P:Nat->Nat)(N:cY):Prop:=∀t,2<=t->0<P t->∃d,N t=some d
def eA(P0:Nat->Nat)(l:zL):Nat->Nat:=λs=>P0 s+l.count s
theorem xB{P0:Nat->Nat}{l:zL}{t:Nat}:up (eA P0 (l++[t])) t (eA P0 (l++[t]) t-1)=eA P0 l:=by
 funext s
 unfold up eA;split
 ·rename_i e;subst e;simp
 rename_i e;simp[xa3,xbK,xbQ e]
theorem si{P0:Nat->Nat}(h:cW kp K ord af tr C){r:Nat}(hm:iB K S gv (eA P0 [r]))(hp:Pos K)(hl:PL (eA P0 [r]) K.N)(hr:r<1048576)(Of:∀s,K.use s<2147483648):
  Fc zQ 132 #[ptr kp,u32 r] C (λv C'=>v=.tuple #[]/\∃K',cW kp K' ord af tr C'/\iB K' S gv P0/\Pos K'/\PL P0 K'.N/\BT K' K):=by
 refine aW λg=>um (ak.int (e:=82) zK zK zK λbx=>?_);refine G7 (λk vs H=>∃(w:zV) (Ct C':Hp) (todo:zL) (K':Kd),vs=[w]/\H=Ct++C'/\aO 82 .u32 w (iw todo) Ct/\cW kp K' ord af tr C'/\iB K' S gv (eA P0 todo)/\Pos K'/\PL (eA P0 todo) K'.N/\BT K' K/\(∀t∈todo,t<1048576)/\k=3*K'.used+todo.length/\k<=3*K.used+1)
  _ ⟨_,[_],C,[r],K,rfl,rfl,aO.made [(r:Int)],h,hm,hp,hl,.refl K,by simpa using hr,rfl,by simp⟩ ?_
 rintro w H hJ gs;obtain⟨k,⟨w',Ct,C',todo,K',hw,rfl,ht,hK,hM,AR,Jj,iJ,hT,hk,hkb⟩,hkm⟩:=hJ.open;simp only[xa0,xdl]at hw;subst hw;refine ht.c6 ?_;rw[aQ];refine ae.mY (b:=0) (Br.dec (λhpos=>?_) (λhpos=>?_))
 ·have B7:=hm.cap;obtain⟨pre,t,rfl⟩:∃pre t,todo=pre++[t]:=⟨todo.dropLast,todo.getLast (by intro e;simp[e]at hpos),(xdk _).symm⟩;have Nv:(pre++[t]).length=pre.length+1:=by simp
  have Kb:=hT t zI;refine ht.c6 ?_;rw[aQ,Nv];refine ae.ju (b:=1) ?_ zO ?_
  ·simp[cv];omega
  rw[xcF];refine ht.ld (i:=pre.length) (x:=(t:Int)) (by rw[dB];simp[iw]) (bf.sub .left) (ht.cut (i:=pre.length) zI λw' ht'=>?_);have B5:aO 82 .u32 w' (iw pre) Ct:=by
   rw[dB,List.take_left' zI]at ht';exact ht'
  have KQ:∀s∈pre,s<1048576:=λs hs=>hT s (xac _ hs);refine ae.ET (b:=1) (Br.dec (λh1=>?_) (λh1=>?_))
  ·have hc:∀s,2<=s->eA P0 (pre++[t]) s=eA P0 pre s:=λs hs=>by
    unfold eA;rw[xa3,xbK];simp;omega
   exact gZ.back (.refl _) hkm (3*K'.used+pre.length) ⟨w',Ct,C',pre,K',rfl,rfl,B5,hK,hM.congr (λ_=>xc0) hc,AR,λs hs h0=>Jj s hs (by rw[hc s hs];exact h0),iJ,KQ,rfl,by simp at hk;omega⟩ (by rw[hk];simp)
  have Mj:0<eA P0 (pre++[t]) t:=by unfold eA;simp;omega
  obtain⟨d,hd⟩:=Jj t zO Mj;have hfit:=hM.fit hd;have PF:=AR t d hd;obtain⟨b,rfl,hO⟩:=hK;refine Nil.ptr (Ld.f ?_);refine hO.us.ld (x:=((K'.use t:Nat):Int)) (bV hfit) (bf.sub (.app (.cons (.app (.app .left))))) (ae.ju (b:=1) ?_ zO ?_)
  ·have:=iJ.us t;have:=Of t;simp[cv];omega
  refine hO.us.px (x:=((K'.use t-1:Nat):Int)) (.app (.cons (.app (.app .left)))) (by simpa using hfit) λCg p9=>?_;rw[fj]at p9;have g1:∀s,(K'.us.set t (K'.use t-1)).getD s 0=if s=t then K'.use t-1 else K'.use s:=λs=>fJ hfit
  have Fx:=hM.less (r:=t) (dy:=K'.us.set t (K'.use t-1)) Mj zI (by rw[g1,xae rfl];omega) (λs hs=>by rw[g1,xab hs]);rw[xB]at Fx;have H7:FV {b with CU:=Cg} {K' with us:=K'.us.set t (K'.use t-1)} ord af tr:={hO with us:=p9,ul:=by simp;exact hO.ul};have Gs:BT {K' with us:=K'.us.set t (K'.use t-1)} K:=⟨iJ.N,iJ.n,iJ.cap,iJ.ho,λs=>by
   show(K'.us.set t (K'.use t-1)).getD s 0<=_;rw[g1];have:=iJ.us s;split
   ·rename_i e;subst e;omega
   ·exact this,λhi s hs=>by
   show(K'.us.set t (K'.use t-1)).getD s 0=0;have hs':K'.N s=none:=hs;rw[g1,xab (λe=>by subst e;rw[hd]at hs';cases hs')];exact iJ.idle hi s hs'⟩
  have H6:PL (eA P0 pre) K'.N:=λs hs h0=>Jj s hs (by unfold eA at h0⊢;rw[xa3];omega);refine Nil.ptr (Ld.f ?_);refine p9.ld (x:=((K'.use t-1:Nat):Int)) (by rw[<-fj];simp[hfit]) (bf.sub (.app (.cons (.app (.app .left))))) ?_;refine ae.mY (b:=0) (Br.dec (λh3=>?_) (λh3=>?_))
  ·refine gZ.back (.refl _) hkm (3*K'.used+pre.length) ⟨w',Ct,_,pre,_,rfl,rfl,B5,⟨_,rfl,H7⟩,Fx,λs e hs=>?_,H6,Gs,KQ,rfl,by simp at hk;omega⟩ (by rw[hk];simp);show 0<(K'.us.set t (K'.use t-1)).getD s 0;rw[g1];split
   ·exact h3
   exact AR s e hs
  have Nu:K'.use t=1:=by omega
  have iy:cW kp {K' with us:=K'.us.set t (K'.use t-1)} ord af tr (({b with CU:=Cg}:pe).hp kp K'.n):=⟨_,rfl,H7⟩;refine aa.eq (mP iy zO) ?_;have Li:2<=t:=by omega
  have Kz:got K'.N t=dQ d:=dL hd Li;show sY _ _ _;intro Lr _;rw[Kz];refine St.p (λx hx=>by simp[dQ,u32]at hx;rcases hx with rfl|rfl|rfl<;>rfl) ?_;refine DR.self (Nil.ptr (Ld.f ?_));refine az.q ?_;have KS:K'.T d=some t:=(hM.nJ d t).2 ⟨hd,λh=>h⟩;refine aa.fq (wz H7.ut (hM.var hd) KS) ?_;rintro v LK ⟨rfl,J6⟩;refine Nil.ptr (Ld.f ?_);refine aa.fq (BQ H7.ar ⟨d,hd⟩ Li) ?_;rintro v LL ⟨rfl,har⟩;refine Ld.f ?_;refine Ld.f ?_;refine ak.D7 (e:=82) zK zK zK λbz=>?_;refine B5.Et (.cons (.cons .left)) (e7.block (l:=[(d.lo:Int),(d.hi:Int)]) (by exact .head _) zI) (by simp at hk⊢;omega) (by simp at hk⊢;omega) λw2 Pe wT=>?_;have e0:iw pre++[(d.lo:Int),(d.hi:Int)]=iw (pre++[d.lo,d.hi]):=by rw[dB];rfl
  rw[e0]at wT;have Dc:({K' with us:=K'.us.set t (K'.use t-1)}:Kd).use t=0:=by show(K'.us.set t (K'.use t-1)).getD t 0=0;rw[g1,xae rfl];omega
  have Gp:=Fx.free (r:=t) (d:=d) hd (λh=>h) Dc;have HP:cg K'.N t K'.cap=0:=by have:=Fx.use hd;rw[Dc]at this;exact(by have h5:cg K'.N t K'.cap+_+_=0:=this.symm;omega)
  have fO:=gi HP t (hM.two hd).2 d hd;have KU:eA P0 pre t=0:=by have:=Fx.use hd;rw[Dc]at this;omega
  have hroom:0<K'.used:=by have:=hM.room;omega
  have hlt:∀x,live K'.N x->x<1048576:=λx hx=>iy.lt hx;have ir:∀s,2<=s->eA P0 pre s+e1 (some d) s=eA P0 (pre++[d.lo,d.hi]) s:=λs _=>by
   unfold eA;rw[ew,xa3,xcb,xcb,xdm];simp only[xcn];omega
  refine gZ.back (.skip (.skip (.refl _))) hkm (3*(K'.used-1)+(pre++[d.lo,d.hi]).length) ⟨w2,Pe,_,pre++[d.lo,d.hi],{K' with us:=K'.us.set t (K'.use t-1),N:=up K'.N t none,T:=uK K'.T d none,used:=K'.used-1},rfl,rfl,wT,
   ⟨{b with CU:=Cg,CT:=LK,CA:=LL},rfl,{H7 with ar:=har,ut:=J6}⟩,Gp.congr (λ_=>xc0) ir,λs e hs=>?_,λs hs h0=>?_,⟨λ{s e} hs=>?_,Gs.n,Gs.cap,Gs.ho,Gs.us,λhi s hs=>?_⟩,λs hs=>?_,rfl,by simp at hk⊢;omega⟩ (by simp at hk⊢;omega)
  ·have hne:s≠t:=λe2=>by subst e2;have kA:up K'.N s none s=some e:=hs;rw[aE]at kA;cases kA
   show 0<(K'.us.set t (K'.use t-1)).getD s 0;rw[g1,xab hne];have kA:up K'.N t none s=some e:=hs;rw[aJ hne]at kA;exact AR s e kA
  ·have hne:s≠t:=λe2=>by
    subst e2;rw[<-ir s hs,KU]at h0;rw[ew,xab fO.1,xab fO.2]at h0;omega
   show∃e,up K'.N t none s=some e;rw[aJ hne];rw[<-ir s hs]at h0;by_cases h5:0<eA P0 pre s
   ·exact H6 s hs h5
   rw[ew]at h0;have:d.lo=s\/d.hi=s:=by
    by_cases h6:d.lo=s
    ·exact .inl h6
    by_cases h7:d.hi=s
    ·exact .inr h7
    rw[xab h6,xab h7]at h0;omega
   rcases this with rfl|rfl
   ·rcases hM.lo hd with h8|h8
    ·omega
    exact h8
   rcases hM.hi hd with h8|h8
   ·omega
   exact h8
  ·have kA:up K'.N t none s=some e:=hs;by_cases e2:s=t
   ·subst e2;rw[aE]at kA;cases kA
   rw[aJ e2]at kA;exact iJ.N kA
  ·have kA:up K'.N t none s=none:=hs;show(K'.us.set t (K'.use t-1)).getD s 0=0;by_cases e2:s=t
   ·subst e2;rw[g1,xae rfl];omega
   rw[aJ e2]at kA;exact Gs.idle hi s kA
  rcases xaw.1 hs with hs|hs
  ·exact KQ s hs
  simp at hs;rcases hs with rfl|rfl
  ·exact hlt _ (hM.lo hd)
  exact hlt _ (hM.hi hd)
 obtain rfl:todo=[]:=xbO zO;exact aZ.mk .right ⟨rfl,K',hK,hM.congr (λ_=>xc0) (λs _=>by simp[eA]),AR,λs hs h0=>Jj s hs (by simpa[eA]using h0),iJ⟩
end
abbrev lv(af:zL):Nat->Nat:=λv=>af.getD v 0
section
variable {kp:Nat} {K:Kd} {ord af tr:zL} {C:Hp} {S:Nat->au.Fn}
theorem u9(h:cW kp K ord af tr C)(v:Int):Rd zQ 171 #[ptr kp,iv v] C (· =.bool (decide (0<=v/\v<K.n))):=by
 obtain⟨b,rfl,hO⟩:=h;refine aW λg=>tK (ae.geq (bL.and (decide (v<K.n)) (λ_=>?_) rfl λ_=>bS.mk (.refl _) (by rw[xdD])));refine Nil.ptr (Ld.f ?_);exact ae.lss ⟨rfl,rfl⟩
theorem oN(h:cW kp K ord af tr C){r:Nat}(hl:live K.N r)(hv:∀d,K.N r=some d->d.v<K.n)(Gu:r<2->K.N r=none):Rd zQ 253 #[ptr kp,u32 r] C (· =iv ((dep K.n (lv af) K.N r:Nat):Int)):=by
 have h0:=h;have hr:=h.lt hl;obtain⟨b,rfl,hO⟩:=h;refine aW λg=>tc (Nil.ptr (ag.mk (aa.eq (mP h0 zO) ?_)));intro b5 _;refine St.whole (r:=got K.N r) (by exact .head _) rfl (aP _ _).1 (aP _ _).2 ?_;by_cases h2:r<2
 ·rw[eE h2,aU (Gu h2)];refine Ld.f ?_;refine ae.geq (Br.JV zD (Nil.ptr (Ld.f ?_)));exact bS.mk .tail rfl
 obtain⟨d,hd⟩:∃d,K.N r=some d:=by rcases hl with hl|hl;omega;exact hl
 rw[dL hd zO,an hd];have AF:=hv d hd;have hlen:=hO.ol.2;refine Ld.f ?_;refine ae.geq (Br.Ex zI (Nil.ptr (Ld.f ?_)));refine Ld.f ?_;exact hO.lv.ld (x:=((af.getD d.v 0:Nat):Int)) (bV zO) (bf.sub (.cons (.cons (.app (.app (.app (.app (.app .left)))))))) (bS.mk .tail rfl)
def iL(K:Kd)(af:zL)(v:Int)(lo hi:Nat):Int:=
 if¬(0<=v/\v<K.n)then 2 else if dh K.N lo=false\/dh K.N hi=false then 3 else if lo≠hi/\min (dep K.n (lv af) K.N lo) (dep K.n (lv af) K.N hi)<=af.getD v.toNat 0 then 4 else 0
theorem vE(h:cW kp K ord af tr C)(v:Int){lo hi:Nat}(hlo:lo<4294967296)(hhi:hi<4294967296)(hv:∀r d,K.N r=some d->d.v<K.n/\2<=r):
  Rd zQ 202 #[ptr kp,iv v,u32 lo,u32 hi] C (· =iv (iL K af v lo hi)):=by
 have h0:=h;have Gu:∀r,r<2->K.N r=none:=λr hr=>by
  cases e:K.N r with
  |none=>rfl
  |some d=>have:=(hv r d e).2;omega
 obtain⟨b,rfl,hO⟩:=h;refine aW λg=>tE (aa.eq (u9 h0 v) (Un.not ?_));by_cases rY:0<=v/\v<K.n;rotate_left
 ·rw[xay rY];exact Br.yes (bS.mk (.refl _) (by unfold iL;rw[xae rY]))
 rw[xaL rY];apply Br.no;obtain⟨n,rfl⟩:∃n:Nat,v=n:=⟨v.toNat,by omega⟩;have PI:n<K.n:=by omega
 intro J hJ;refine Nil.ptr (ag.mk (aa.eq (gN h0 hlo) (Un.not ?_)));by_cases rZ:dh K.N lo=true;rotate_left
 ·have HE:dh K.N lo=false:=by simpa using rZ
  rw[HE];exact Split.zv rfl (bX.mk (JE.mk (hJ _ _ λgs=>Br.yes (bS.mk (.refl _) (by unfold iL;rw[xab (by simpa using rY),xae (.inl HE)])))))
 rw[rZ];refine Split.go rfl (Nil.ptr (ag.mk (aa.eq (gN h0 hhi) (Un.not ?_))));by_cases I8:dh K.N hi=true;rotate_left
 ·have HL:dh K.N hi=false:=by simpa using I8
  rw[HL];exact bX.mk (JE.mk (hJ _ _ λgs=>Br.yes (bS.mk (.refl _) (by unfold iL;rw[xab (by simpa using rY),xae (.inr HL)]))))
 rw[I8];refine bX.mk (JE.mk (hJ _ _ λgs=>Br.no ?_));intro J2 yP;have hE:iL K af n lo hi=if lo≠hi/\min (dep K.n (lv af) K.N lo) (dep K.n (lv af) K.N hi)<=af.getD n 0 then 4 else 0:=by
  unfold iL;rw[xab (by simpa using rY),xab (by rw[rZ,I8];simp)];rfl
 refine DR.self (ae.nM ?_);by_cases hne:lo≠hi;rotate_left
 ·rw[xay hne];exact Br.no (JE.mk (yP _ _ λgs=>Br.no (bS.mk (.refl _) (by rw[hE,xab (λh=>hne h.1)]))))
 rw[xaL hne];refine Br.yes (Nil.ptr (Ld.f ?_));have hlen:=hO.ol.2;refine hO.lv.ld (x:=((af.getD n 0:Nat):Int)) (bV zO) (bf.sub (.cons (.app (.app (.app (.app (.app .left))))))) λF=>?_;refine aa.eq (oN h0 (bF.1 rZ) (λd hd=>(hv _ _ hd).1) (Gu _)) (⟨.refl _,?_⟩);intro F2;refine aa.eq (oN h0 (bF.1 I8) (λd hd=>(hv _ _ hd).1) (Gu _)) (⟨.refl _,?_⟩);refine⟨_,_,_,rfl,rfl,?_⟩;have hmin:(if((dep K.n (lv af) K.N hi:Nat):Int)<((dep K.n (lv af) K.N lo:Nat):Int)then((dep K.n (lv af) K.N hi:Nat):Int)else((dep K.n (lv af) K.N lo:Nat):Int))=((min (dep K.n (lv af) K.N lo) (dep K.n (lv af) K.N hi):Nat):Int):=by
  split<;>omega
 rw[hmin];refine ae.n5 (bX.mk ?_);by_cases hm:min (dep K.n (lv af) K.N lo) (dep K.n (lv af) K.N hi)<=af.getD n 0
 ·rw[xaL hm];exact JE.mk (yP _ _ λgs=>Br.yes (bS.mk (.refl _) (by rw[hE,xae ⟨hne,hm⟩])))
 rw[xay hm];exact JE.mk (yP _ _ λgs=>Br.no (bS.mk (.refl _) (by rw[hE,xab (λh=>hm h.2)])))
theorem uP(h:cW kp K ord af tr C){v lo hi:Nat}(hv:v<K.n):
  Rd zQ 203 #[ptr kp,iv (v:Int),u32 lo,u32 hi] C (· =if lo=hi then .tuple #[u32 lo,.bool true]else .tuple #[u32 ((K.T ⟨v,lo,hi⟩).getD 0),.bool (K.T ⟨v,lo,hi⟩).isSome]):=by
 obtain⟨b,rfl,hO⟩:=h;refine aW λg=>tD (ae.bN (Br.dec (λhe=>bS.mk (.refl _) (by rw[xae he])) (λhe=>?_)));refine Nil.ptr (ag.mk (Ld.f ?_));exact Build.mk (cs:=dQ ⟨v,lo,hi⟩) zK (aa.eq (Dy (d:=⟨v,lo,hi⟩) hO.ut hv) (Ext.mk rfl (Ext.mk rfl (bS.mk (.refl _) (by rw[xab he];rfl)))))
theorem qS(h:cW kp K ord af tr C){r:Nat}(hr:r<4294967296)(hb:∀s,K.hold s<2147483648):Rd zQ 131 #[ptr kp,u32 r] C (· =iv ((K.hold r:Nat):Int)):=by
 obtain⟨b,rfl,hO⟩:=h;refine aW λg=>uo (ae.bB (bL.or (decide (K.ho.length<=r)) (λ_=>?_) zI λ_=>?_))
 ·refine bj.q (Nil.ptr (ag.mk (Ld.f ?_)));refine hO.ho.c6 ?_;rw[aQ];exact ae.n5 ⟨rfl,rfl⟩
 rw[xdr];refine Br.dec (λhge=>?_) (λhlt=>?_)
 ·refine bS.mk (.refl _) ?_;unfold Kd.hold;rw[List.getD,xaM hge];rfl
 refine Nil.ptr (ag.mk (Ld.f ?_));exact hO.ho.ld (x:=((K.hold r:Nat):Int)) (bV zO) (bf.sub (.cons (.app (.app (.app .left))))) (bj.nat (by have:=hb r;simp[cv];omega) (bS.mk (.refl _) rfl))
theorem mN(h:cW kp K ord af tr C):Rd zQ 75 #[ptr kp] C (· =iv ((K.n:Nat):Int)):=by
 obtain⟨b,rfl,hO⟩:=h;refine aW λg=>x9 (ae.bB (Br.no (Nil.ptr (Ld.f ?_))));exact bS.mk (.refl _) rfl
theorem jD(h:cW kp K ord af tr C){r:Nat}(hr:r<4294967296):Rd zQ 133 #[ptr kp,u32 r] C (· =.tuple #[.agg (got K.N r).toArray,iv (if dh K.N r then 0 else 3)]):=by
 have h0:=h;obtain⟨b,rfl,hO⟩:=h;refine aW λg=>uk λb1 _=>?_;refine ae.bB (Br.no (Nil.ptr (ag.mk (aa.eq (gN h0 hr) (Un.not ?_)))));cases hb:dh K.N r with
 |false=>
  refine Br.yes (Build.mk (cs:=[iv 0,.int .u32 0,.int .u32 0]) zK (St.q ?_));refine az.q ?_;exact bS.mk .tail (by rw[q7 hb];rfl)
 |true=>
  refine Br.no (Nil.ptr (ag.mk (aa.eq (mP h0 hr) (St.whole (r:=got K.N r) (by exact .head _) rfl (aP _ _).1 (aP _ _).2 ?_))));refine az.whole (r:=got K.N r) (by exact .head _) (aP _ _).1 ?_;exact bS.mk .tail rfl
end
theorem rJ{B:Hp}{v:zV}{l:List Int}(h:e7 .i64 B v l)(hl:l.length<=1099511627776):Fc zQ 49 #[v] B (λr H=>∃C,H=C++B/\aO 3 .i64 r l C):=by
 refine aW λg=>yj ?_;obtain⟨a,c,rfl,hc⟩:=h.shape;refine⟨.bool a.isNone,by simp[eV],?_⟩;refine Br.mk (λha=>?_) (λha=>?_)
 ·have:l=[]:=by
   rcases h.2 with⟨_,_,h1,h2⟩|⟨b,o,cap,cs,T,fz,h1,_⟩
   ·simpa using h2
   simp at h1;rw[h1.1]at ha;simp at ha
  subst this;exact aZ.here ⟨[],rfl,aO.nil⟩
 refine ak.none (z:=iv 0) (e:=3) (k:=1) zK zK zK λb=>?_;refine(aO.made (T:=3) (kd:=.i64) (b:=b) []).Et (l2:=l) .left ((show e7 .i64 B _ l from h).mono λ_ h=>.tail _ h) zP zP λv' C' ho=>?_;exact aZ.here ⟨C',rfl,by simpa using ho⟩
theorem wO{kp:Nat}{K:Kd}{ord af tr:zL}{C:Hp}(h:cW kp K ord af tr C):Fc zQ 112 #[ptr kp] C (λr H=>∃N,H=N++C/\aO 3 .i64 r (iw ord) N):=by
 obtain⟨b,rfl,hO⟩:=h;refine aW λg=>uA (ae.bB (Br.no (Nil.ptr (Ld.f ?_))));refine aa.fq (rJ (hO.od.ints.mono (bf.sub (.cons (.app (.app (.app (.app .left))))))) (by have:=hO.ol.1;have:=hO.ES;simp;omega)) ?_;rintro v C' ⟨N,rfl,ho⟩;exact aZ.here ⟨N,rfl,ho⟩
end
section
def lH(x r:Nat):Prop:=x<2^r/\(r=0\/2^(r-1)<=x)
theorem lH.gt{x r n:Nat}(h:lH x r):n<r↔2^n<=x:=by
 constructor
 ·intro hn;rcases h.2 with h2|h2
  ·omega
  exact xbs (xaI zD zO) h2
 intro hn;have:=xbg hn h.1;exact(Nat.pow_lt_pow_iff_right zD).1 this
theorem lH.up{x s t:Nat}(h:lH (x>>>s) t)(h0:s=0\/x>>>s≠0):lH x (s+t):=by
 rw[xa8]at h h0;have hp:=xbI s;refine⟨?_,?_⟩
 ·have:=h.1;rw[Nat.div_lt_iff_lt_mul hp]at this;rw[xct,xbf];exact this
 rcases h.2 with h2|h2
 ·subst h2;have:=h.1;rcases h0 with h0|h0
  ·exact .inl zO
  rw[Nat.pow_zero]at this;exact absurd (Nat.lt_one_iff.1 this) h0
 by_cases ht:t=0
 ·subst ht;rcases h0 with h0|h0
  ·exact .inl zO
  have:=h.1;rw[Nat.pow_zero]at this;exact absurd (Nat.lt_one_iff.1 this) h0
 right;have:=(Nat.le_div_iff_mul_le hp).1 h2;rw[show s+t-1=(t-1)+s by omega,xct];exact this
theorem C4:∀y:Fin 256,∃b:UInt8, zX[y.1]? =some b/\(y.1<2^b.toNat/\(b.toNat=0\/2^(b.toNat-1)<=y.1)):=by
 have h:∀y:Fin 256,(match zX[y.1]? with|some b=>decide (y.1<2^b.toNat/\(b.toNat=0\/2^(b.toNat-1)<=y.1))|none=>false)=true:=by decide+kernel
 intro y;have:=h y;split at this
 ·rename_i b hb;exact⟨b,hb,by simpa using this⟩
 cases this
theorem Aa{x:Nat}(hx:x<18446744073709551616)(B:Hp):Rd zQ 252 #[.int .u64 (x:Int)] B (λv=>∃r:Nat,lH x r/\v=iv (r:Int)):=by
 refine aW λg=>td λJ1 AT=>?_;have h1:∀s,s<=32->x>>>s<4294967296->(s=0\/x>>>s≠0)->J1 [.int .u64 ((x>>>s:Nat):Int),iv (s:Int)] B:=by
  intro s hs hlt h0;refine AT _ _ _ λgs=>?_;intro J2 yP;have h2:∀s,s<=48->x>>>s<65536->(s=0\/x>>>s≠0)->J2 [.int .u64 ((x>>>s:Nat):Int),iv (s:Int)] B:=by
   intro s hs hlt h0;refine yP _ _ _ λgs=>?_;intro J3 Ow;have h3:∀s,s<=56->x>>>s<256->(s=0\/x>>>s≠0)->J3 [.int .u64 ((x>>>s:Nat):Int),iv (s:Int)] B:=by
    intro s hs hlt h0;refine Ow _ _ _ λgs=>?_;refine bj.nat (show x>>>s<256 from hlt) ?_;obtain⟨b,hb,hl⟩:=C4 ⟨x>>>s,hlt⟩;refine⟨_,_,_,b,rfl,rfl,xbp _,by rw[xbx];exact hb,?_⟩;have Dr:b.toNat<256:=b.toNat_lt;exact bj.q (ae.xI (bS.mk (.refl _) ⟨s+b.toNat,lH.up (t:=b.toNat) hl h0,rfl⟩))
   refine ae.n5 (b:=256) (Br.dec (λhge=>?_) (λhge=>JE.mk (h3 s zO zO h0)));refine ae.zi (b:=8) (by simp only[cv];omega) (ae.xI (b:=8) ?_);rw[<-xcG];have e:x>>>(s+8)=x>>>s/256:=by rw[xcG,xa8 (x>>>s) 8]
   exact JE.mk (h3 (s+8) zO zO (.inr zO))
  refine ae.n5 (b:=65536) (Br.dec (λhge=>?_) (λhge=>JE.mk (h2 s zO zO h0)));refine ae.zi (b:=16) (by simp only[cv];omega) (ae.xI (b:=16) ?_);rw[<-xcG];have e:x>>>(s+16)=x>>>s/65536:=by rw[xcG,xa8 (x>>>s) 16]
  exact JE.mk (h2 (s+16) zO zO (.inr zO))
 refine ae.n5 (b:=4294967296) (Br.dec (λhge=>?_) (λhge=>JE.mk (h1 0 zO zP (.inl rfl))));refine ae.zi (b:=32) (by simp only[cv];exact hx) ?_;have e:x>>>32=x/4294967296:=by rw[xa8]
 exact JE.mk (h1 32 zO zO (.inr zO))
open au
def Idle(K:Kd):Prop:=∀s,K.N s=none->K.use s=0
theorem yX{K:Kd}{S:Nat->au.Fn}{E:Nat->Prop}{P:Nat->Nat}(hm:iB K S E P)(hi:Idle K){M:Nat}(hP:∀s,P s<=M)(s:Nat):K.use s<=2097153+M:=by
 cases h:K.N s with
 |none=>rw[hi s h];omega
 |some d=>
  rw[hm.use h];have:=ry (N:=K.N) (r:=s) K.cap;have:=hm.cap.2;have:=hP s;split<;>omega
section
variable {kp:Nat} {K:Kd} {ord af tr:zL} {C:Hp} {S:Nat->au.Fn}
structure Kept(K:Kd)(S:Nat->au.Fn)(K':Kd)(S':Nat->au.Fn):Prop where
 n:K'.n=K.n
 cap:K'.cap=K.cap
 hold:∀r,K'.hold r=K.hold r
 held:∀g,K'.held S' g↔K.held S g
 fn:∀r,K.hold r≠0->S' r=S r
end
structure cc(kp:Nat)(K:Kd)(S:Nat->au.Fn)(ord af tr:zL)(C:Hp):Prop where
 rep:cW kp K ord af tr C
 ok:Ok K S (lv af)
 od:Ord K.n (lv af) ord
 idle:Idle K
 tr:Ix K.n K.cap (K.held S) ord tr.reverse
theorem Kept.refl(K:Kd)(S:Nat->au.Fn):Kept K S K S:=⟨rfl,rfl,λ_=>rfl,λ_=>xc0,λ_ _=>rfl⟩
section
variable {kp:Nat} {K:Kd} {ord af tr:zL} {C:Hp} {S:Nat->au.Fn}
theorem cc.cH(h:cc kp K S ord af tr C){r:Nat}(hl:live K.N r):r<1048576:=h.rep.lt hl
theorem cc.mh(h:cc kp K S ord af tr C)(r:Nat):K.hold r<=65535:=h.ok.mid.mx r
theorem cc.yW(h:cc kp K S ord af tr C)(r:Nat):K.use r<=2097153:=by have:=yX h.ok.mid h.idle (M:=0) (λ_=>xak _) r;omega
structure FQ(K K':Kd)(r:Nat):Prop where
 n:K'.n=K.n
 cap:K'.cap=K.cap
 used:K'.used=K.used
 N:K'.N=K.N
 hold:∀s,K'.hold s=if s=r/\2<=r then K.hold s+1 else K.hold s
theorem wQ(h:cc kp K S ord af tr C){r:Nat}(hl:live K.N r)(h2:2<=r)(hf:K.hold r=65535):Rd zQ 157 #[ptr kp,u32 r] C (· =iv 8):=by
 have hr:=h.cH hl;obtain⟨b,hC,hO⟩:=h.rep;have hfit:r<K.ho.length:=by
  rcases hl with hl|⟨d,hd⟩
  ·omega
  rw[<-hO.ul.1];exact h.ok.mid.fit hd
 refine aW λg=>nE (ae.bB (Br.no (Nil.ptr (ag.mk (aa.eq (gN h.rep zO) ?_)))));rw[bF.2 hl];refine Un.not (Br.no λJ7 _=>(ae.mY (b:=1) (Br.T (Nil.ptr (ag.mk (Ld.u (by rw[hC];exact .head _) ?_))))));refine hO.ho.ld (x:=((K.hold r:Nat):Int)) (bV hfit) (by rw[hC];exact bf.sub (.cons (.app (.app (.app .left))))) ?_;rw[hf];exact ae.qd (Br.T (bS.mk (.refl _) rfl))
theorem qT(h:cW kp K ord af tr C)(Gq:iB K S gv zero')(Dl:Idle K){r:Nat}(hl:live K.N r)(hf:2<=r->K.hold r<65535):Fc zQ 157 #[ptr kp,u32 r] C (λv C'=>v=iv 0/\∃K',cW kp K' ord af [] C'/\
  iB K' S gv zero'/\Idle K'/\FQ K K' r/\(∀s,K.use s<=K'.use s)/\(2<=r->0<K'.use r)):=by
 have hr:=h.lt hl;have h0:=h;obtain⟨b,hC,hO⟩:=h;refine aW λg=>nE (ae.bB (Br.no (Nil.ptr (ag.mk (aa.eq (gN h0 zO) ?_)))));rw[bF.2 hl];refine Un.not (Br.no λJ7 Ov=>?_);have fin:∀(K':Kd) C1,cW kp K' ord af tr C1->iB K' S gv zero'->Idle K'->FQ K K' r->(∀s,K.use s<=K'.use s)->(2<=r->0<K'.use r)->J7 [] C1:=λK' C1 gU E7 AB hm hu hp=>by
  refine Ov _ λgs=>?_;obtain⟨b',rfl,xe⟩:=gU;refine Nil.ptr (ag.mk (St.one (by exact .head _) rfl (by simp[pe.cells]) rfl ?_));refine aZ.mk (dY:=({b' with vt:=.slice none 0 0,CR:=[]}:pe).hp kp K'.n) ?_ ⟨rfl,K',⟨{b' with vt:=.slice none 0 0,CR:=[]},rfl,{xe with tr:=aO.nil}⟩,E7,AB,hm,hu,hp⟩;refine .cons (.cA (.cA (.cA (.cA (.cA (.cA .nil _) _) _) _) _) _)
 refine ae.mY (b:=1) (Br.dec (λh2=>?_) (λh2=>?_));rotate_left
 ·refine JE.mk (fin K C h0 Gq Dl ⟨rfl,rfl,rfl,rfl,λs=>?_⟩ (λ_=>xak _) (λh=>by omega));rw[xab zO]
 have nO:2<=r:=by omega
 have wZ:=hf nO;obtain⟨d,hd⟩:∃d,K.N r=some d:=by
  rcases hl with hl|hl
  ·omega
  exact hl
 have Jc:=Gq.fit hd;have Ec:=hO.ul;have hfit:r<K.ho.length:=by omega
 subst hC;refine Nil.ptr (ag.mk (Ld.f ?_));refine hO.ho.ld (x:=((K.hold r:Nat):Int)) (bV hfit) (bf.sub (.cons (.app (.app (.app .left))))) (ae.qd (Br.F (Nil.ptr (ag.mk (Ld.f ?_)))));refine hO.ho.ld (x:=((K.hold r:Nat):Int)) (bV hfit) (bf.sub (.cons (.app (.app (.app .left))))) (ae.inc (hO.ho.px (x:=((K.hold r+1:Nat):Int)) (.cons (.app (.app (.app .left)))) (by rw[aQ];exact hfit) λDP jX=>?_));rw[fj]at jX;have g1:∀s,(K.ho.set r (K.hold r+1)).getD s 0=if s=r then K.hold r+1 else K.hold s:=λs=>fJ hfit
 refine Nil.ptr (ag.mk (Ld.f ?_));refine jX.ld (x:=((K.hold r+1:Nat):Int)) (by rw[bV (by simpa using hfit),g1,xae rfl]) (bf.sub (.cons (.app (.app (.app .left))))) ?_;refine ae.bN (b:=1) (Br.dec (λh3=>?_) (λh3=>?_))
 ·refine Nil.ptr (ag.mk (Ld.f ?_));refine hO.us.ld (x:=((K.use r:Nat):Int)) (bV Jc) (bf.sub (.cons (.app (.app .left)))) ?_;have Pz:=yX Gq Dl (M:=0) (λ_=>xak _) r;refine ae.inc (hO.us.px (x:=((K.use r+1:Nat):Int)) (.cons (.app (.app .left))) (by rw[aQ];exact Jc) λCg p9=>?_);rw[fj]at p9;have g2:∀s,(K.us.set r (K.use r+1)).getD s 0=if s=r then K.use r+1 else K.use s:=λs=>fJ Jc
  have hM:=Gq.keep (r:=r) (dy:=K.us.set r (K.use r+1)) (cB:=K.ho.set r (K.hold r+1)) ⟨d,hd⟩ wZ zI (by rw[g1,xae rfl]) (λs hs=>by rw[g1,xab hs]) (by rw[g2,xae rfl,xae zO]) (λs hs=>by rw[g2,xab hs]);refine JE.mk (fin {K with us:=K.us.set r (K.use r+1),ho:=K.ho.set r (K.hold r+1)} _ ⟨{b with CU:=Cg,CH:=DP},rfl,{hO with us:=p9,ho:=jX,ul:=by simp;exact Ec}⟩ hM (λs hs=>?_) ⟨rfl,rfl,rfl,rfl,λs=>?_⟩ (λs=>?_) (λ_=>?_))
  ·show(K.us.set r (K.use r+1)).getD s 0=0;have hs':K.N s=none:=hs;rw[g2,xab (λe=>by rw[e,hd]at hs';cases hs')];exact Dl s hs'
  ·show(K.ho.set r (K.hold r+1)).getD s 0=_;rw[g1];by_cases e:s=r
   ·subst e;rw[xae rfl,xae ⟨rfl,nO⟩]
   rw[xab e,xab (λh=>e h.1)]
  ·show K.use s<=(K.us.set r (K.use r+1)).getD s 0;rw[g2];split
   ·rename_i e;subst e;omega
   exact xak _
  show 0<(K.us.set r (K.use r+1)).getD r 0;rw[g2,xae rfl];omega
 have hM:=Gq.keep (r:=r) (dy:=K.us) (cB:=K.ho.set r (K.hold r+1)) ⟨d,hd⟩ wZ zI (by rw[g1,xae rfl]) (λs hs=>by rw[g1,xab hs]) (by show K.use r=_;rw[xab zO];rfl) (λs hs=>rfl);refine JE.mk (fin {K with ho:=K.ho.set r (K.hold r+1)} _ ⟨{b with CH:=DP},rfl,{hO with ho:=jX,ul:=by simp;exact Ec}⟩ hM Dl ⟨rfl,rfl,rfl,rfl,λs=>?_⟩ (λ_=>xak _) (λ_=>?_));rotate_left
 ·show 0<K.use r;rw[Gq.use hd,xab zO];omega
 show(K.ho.set r (K.hold r+1)).getD s 0=_;rw[g1];by_cases e:s=r
 ·subst e;rw[xae rfl,xae ⟨rfl,nO⟩]
 rw[xab e,xab (λh=>e h.1)]
theorem pF(h:cc kp K S ord af tr C){r:Nat}(hl:live K.N r)(hf:2<=r->K.hold r<65535):Fc zQ 157 #[ptr kp,u32 r] C (λv C'=>v=iv 0/\∃K',cc kp K' S ord af [] C'/\FQ K K' r):=by
 refine(qT h.rep h.ok.mid h.idle hl hf).mono ?_;rintro v C' ⟨rfl,K',gU,Jl,AB,hm,hu,hp⟩;refine⟨rfl,K',⟨gU,⟨Jl,λs d hs=>?_,by rw[hm.n];exact h.ok.lv,by rw[hm.n,hm.N];exact h.ok.wf⟩,by rw[hm.n];exact h.od,AB,trivial⟩,hm⟩;rw[hm.N]at hs;exact xbr (h.ok.pos s d hs) (hu s)
end
section
variable {kp:Nat} {K:Kd} {ord af tr:zL} {C:Hp} {S:Nat->au.Fn}
theorem C0{K':Kd}{P:Nat->Nat}(hw:WF K.n (lv af) K.N)(hM:iB K' S gv P)(hN:∀{s d},K'.N s=some d->K.N s=some d)(hn:K'.n=K.n):WF K'.n (lv af) K'.N:=by
 have same:∀{t},live K'.N t->dep K'.n (lv af) K'.N t=dep K.n (lv af) K.N t:=λ{t} ht=>by
  cases e:K'.N t with
  |some f=>rw[an e,an (hN e)]
  |none=>
   have B5:t<2:=by
    rcases ht with ht|⟨f,hf⟩
    ·exact ht
    rw[e]at hf;cases hf
   rw[aU e,aU (hw.const B5),hn]
 refine hM.wf λ{s d} hs=>?_;rw[same (hM.lo hs),same (hM.hi hs)];exact⟨(hw.lo (hN hs)).2,(hw.hi (hN hs)).2⟩
structure BZ(K K':Kd)(r:Nat):Prop where
 n:K'.n=K.n
 cap:K'.cap=K.cap
 N:∀s d,K'.N s=some d->K.N s=some d
 hold:∀s,K'.hold s=if s=r/\2<=r then K.hold s-1 else K.hold s
theorem Il(h:cc kp K S ord af tr C){r:Nat}(hr:r<4294967296)(h2:2<=r)(h0:K.hold r=0):Rd zQ 102 #[ptr kp,u32 r] C (· =iv 3):=by
 refine aW λg=>nF (ae.bB (Br.no ?_));intro J2 _;refine ae.mY (b:=1) (Br.T (aa.eq (qS h.rep hr (λs=>by have:=h.mh s;omega)) ?_));rw[h0];exact ae.qd (Br.T (bS.mk (.refl _) rfl))
theorem pV(h:cc kp K S ord af tr C){r:Nat}(hr:r<4294967296)(hh:2<=r->K.hold r≠0):Fc zQ 102 #[ptr kp,u32 r] C (λv C'=>v=iv 0/\∃K',cc kp K' S ord af [] C'/\BZ K K' r):=by
 have h0:=h;obtain⟨b,hC,hO⟩:=h.rep;refine aW λg=>nF (ae.bB (Br.no ?_));intro J2 yP;have fin:∀(K':Kd) C1,cW kp K' ord af tr C1->Ok K' S (lv af)->Idle K'->BZ K K' r->J2 [] C1:=λK' C1 gU E7 AB hm=>by
  refine yP _ λgs=>?_;obtain⟨b',rfl,xe⟩:=gU;refine Nil.ptr (ag.mk (St.one (by exact .head _) rfl (by simp[pe.cells]) rfl ?_));have lY:Ord K'.n (lv af) ord:=by rw[hm.n];exact h.od
  refine aZ.mk (dY:=({b' with vt:=.slice none 0 0,CR:=[]}:pe).hp kp K'.n) ?_ ⟨rfl,K',⟨⟨{b' with vt:=.slice none 0 0,CR:=[]},rfl,{xe with tr:=aO.nil}⟩,E7,lY,AB,trivial⟩,hm⟩;refine .cons (.cA (.cA (.cA (.cA (.cA (.cA .nil _) _) _) _) _) _)
 refine ae.mY (b:=1) (Br.dec (λh2=>?_) (λh2=>?_));rotate_left
 ·exact JE.mk (fin K C h.rep h.ok h.idle ⟨rfl,rfl,λ_ _ h=>h,λs=>by rw[xab zO]⟩)
 have nO:2<=r:=by omega
 have jX:=hh nO;obtain⟨d,hd⟩:=h.ok.mid.held r jX;have Jc:=h.ok.mid.fit hd;have Ec:=hO.ul;have hfit:r<K.ho.length:=by omega
 have hle:=h.mh r;refine aa.eq (qS h.rep hr (λs=>by have:=h.mh s;omega)) (ae.qd (Br.F ?_));subst hC;refine Nil.ptr (ag.mk (Ld.f ?_));refine hO.ho.ld (x:=((K.hold r:Nat):Int)) (bV hfit) (bf.sub (.cons (.app (.app (.app .left))))) (ae.qp (b:=1) (hO.ho.px (x:=((K.hold r-1:Nat):Int)) (.cons (.app (.app (.app .left)))) (by rw[aQ];exact hfit) λDP Ky=>?_));rw[fj]at Ky;have g1:∀s,(K.ho.set r (K.hold r-1)).getD s 0=if s=r then K.hold r-1 else K.hold s:=λs=>fJ hfit
 have hM:=h.ok.mid.drop (r:=r) (cB:=K.ho.set r (K.hold r-1)) zO zI (by rw[g1,xae rfl];omega) (λs hs=>by rw[g1,xab hs]);have iy:cW kp {K with ho:=K.ho.set r (K.hold r-1)} ord af tr (({b with CH:=DP}:pe).hp kp K.n):=⟨_,rfl,{hO with ho:=Ky,ul:=by simp;exact Ec}⟩;have Mc:∀s,(K.ho.set r (K.hold r-1)).getD s 0=if s=r/\2<=r then K.hold s-1 else K.hold s:=λs=>by
  rw[g1];by_cases e:s=r
  ·subst e;rw[xae rfl,xae ⟨rfl,nO⟩]
  rw[xab e,xab (λh=>e h.1)]
 refine Nil.ptr (ag.mk (Ld.f ?_));refine Ky.ld (x:=((K.hold r-1:Nat):Int)) (by rw[bV (by simpa using hfit),g1,xae rfl]) (bf.sub (.cons (.app (.app (.app .left))))) (ae.bN (b:=0) (Br.dec (λh3=>?_) (λh3=>?_)));rotate_left
 ·rw[xab zO]at hM;exact JE.mk (fin {K with ho:=K.ho.set r (K.hold r-1)} _ iy ⟨hM,h.ok.pos,h.ok.lv,h.ok.wf⟩ h.idle ⟨rfl,rfl,λ_ _ h=>h,Mc⟩)
 rw[xae zO]at hM;refine Nil.ptr (ag.mk ?_);have Gp:iB {K with ho:=K.ho.set r (K.hold r-1)} S gv (eA zero' [r]):=hM.congr (λ_=>xc0) λs _=>by
  unfold up eA zero';by_cases e:s=r
  ·subst e;simp
  simp[e,xbQ e]
 refine aa.fq (si (P0:=zero') iy Gp h.ok.pos (λt Li h0=>?_) (h.cH (.inr ⟨d,hd⟩)) (λs=>by have:=h.yW s;show K.use s<_;omega)) ?_
 ·by_cases e:t=r
  ·subst e;exact⟨d,hd⟩
  have OD:0<zero' t+[r].count t:=h0;simp[zero',xbQ e]at OD
 rintro w C2 ⟨rfl,K2,dP,Jk,ND,_,iG⟩;refine JE.mk (fin K2 _ dP ⟨Jk,ND,by rw[iG.n];exact h.ok.lv,C0 h.ok.wf Jk (λh=>iG.N h) iG.n⟩ (iG.idle h.idle) ⟨iG.n,iG.cap,λs e hs=>iG.N hs,λs=>?_⟩);show K2.ho.getD s 0=_;rw[iG.ho];exact Mc s
structure lF(K:Kd)(S:Nat->au.Fn)(K':Kd)(S':Nat->au.Fn)(f:au.Fn)(r:Nat):Prop where
 n:K'.n=K.n
 cap:K'.cap=K.cap
 used:K'.used<=K.used+1
 N:∀s d,K.N s=some d->K'.N s=some d
 fn:∀s,live K.N s->S' s=S s
 live:live K'.N r
 is:S' r=f
 hold:∀s,K'.hold s=if s=r/\2<=r then K.hold s+1 else K.hold s
theorem u3(h:cc kp K S ord af tr C){v lo hi:Nat}(hv:v<K.n)(hlo:live K.N lo)(hhi:live K.N hi)(hlt:lo=hi\/(lv af v<dep K.n (lv af) K.N lo/\lv af v<dep K.n (lv af) K.N hi)):
  Fc zQ 158 #[ptr kp,iv (v:Int),u32 lo,u32 hi] C (λw C'=>
   (∃r K' S',w=.tuple #[u32 r,iv 0]/\cc kp K' S' ord af [] C'/\lF K S K' S' (ite S ⟨v,lo,hi⟩) r)\/
   (∃r,w=.tuple #[u32 0,iv 8]/\C'=C/\live K.N r/\2<=r/\K.hold r=65535/\S r=ite S ⟨v,lo,hi⟩)\/
   (w=.tuple #[u32 0,iv 9]/\C'=C/\K.cap<=K.used/\lo≠hi/\K.T ⟨v,lo,hi⟩=none)):=by
 have h0:=h;have Kr:=h.cH hlo;have Kx:=h.cH hhi;have Ef:=bF.2 hlo;have vi:=bF.2 hhi;have KD:iL K af (v:Int) lo hi=0:=by
  unfold iL;rw[xab zO,xab (by rw[Ef,vi];simp),xab];rintro⟨hne,hmin⟩;rcases hlt with e|⟨a,b⟩
  ·exact hne e
  simp only[xbx,lv]at hmin a b;omega
 refine aW λg=>tX (ae.bB (Br.no (aa.eq (vE h.rep (v:Int) zO zO (λr d hd=>⟨h.ok.mid.var hd,(h.ok.mid.two hd).1⟩)) ?_)));rw[KD];refine ae.j7 (Br.F (aa.rq (uP h.rep (lo:=lo) (hi:=hi) hv) ?_));rintro w hw;have there:∀(J9:List zV->Hp->Prop),(∀GI:zV,∀Eu:Hp,(∀OG:Fr,aa zQ g 157 #[ptr kp,GI] Eu (λIS GD=>ae .num .neq IS (Value.int .i64 0) λJJ=>Br JJ
   (aZ (λw C'=>(∃r K' S',w=.tuple #[u32 r,iv 0]/\cc kp K' S' ord af [] C'/\lF K S K' S' (ite S ⟨v,lo,hi⟩) r)\/
   (∃r,w=.tuple #[u32 0,iv 8]/\C'=C/\live K.N r/\2<=r/\K.hold r=65535/\S r=ite S ⟨v,lo,hi⟩)\/
   (w=.tuple #[u32 0,iv 9]/\C'=C/\K.cap<=K.used/\lo≠hi/\K.T ⟨v,lo,hi⟩=none)) (.returned (.tuple #[(Value.int .u32 0),IS])) GD) (aZ (λw C'=>(∃r K' S',w=.tuple #[u32 r,iv 0]/\cc kp K' S' ord af [] C'/\lF K S K' S' (ite S ⟨v,lo,hi⟩) r)\/
   (∃r,w=.tuple #[u32 0,iv 8]/\C'=C/\live K.N r/\2<=r/\K.hold r=65535/\S r=ite S ⟨v,lo,hi⟩)\/
   (w=.tuple #[u32 0,iv 9]/\C'=C/\K.cap<=K.used/\lo≠hi/\K.T ⟨v,lo,hi⟩=none)) (.returned (.tuple #[GI,(Value.int .i64 0)])) GD)) (dj (aZ (λw C'=>(∃r K' S',w=.tuple #[u32 r,iv 0]/\cc kp K' S' ord af [] C'/\lF K S K' S' (ite S ⟨v,lo,hi⟩) r)\/
   (∃r,w=.tuple #[u32 0,iv 8]/\C'=C/\live K.N r/\2<=r/\K.hold r=65535/\S r=ite S ⟨v,lo,hi⟩)\/
   (w=.tuple #[u32 0,iv 9]/\C'=C/\K.cap<=K.used/\lo≠hi/\K.T ⟨v,lo,hi⟩=none)))))->J9 [GI] Eu)->
   ∀r,live K.N r->S r=ite S ⟨v,lo,hi⟩->J9 [u32 r] C:=λJ9 Fy r hr hS=>by
  refine Fy _ _ λgs=>?_;by_cases hf:2<=r/\K.hold r=65535
  ·exact aa.eq (wQ h hr hf.1 hf.2) (ae.j7 (Br.T (aZ.here (.inr (.inl ⟨r,rfl,rfl,hr,hf.1,hf.2,hS⟩)))))
  refine aa.fq (pF h hr (λh2=>by have:=h.mh r;omega)) ?_;rintro w C' ⟨rfl,K',gU,hm⟩;refine ae.j7 (Br.F (aZ.here (.inl ⟨r,K',S,rfl,gU,⟨hm.n,hm.cap,by rw[hm.used];omega,λs d hs=>by rw[hm.N];exact hs,λ_ _=>rfl,by rw[hm.N];exact hr,hS,hm.hold⟩⟩)))
 by_cases he:lo=hi
 ·rw[xae he]at hw;subst hw;refine Ext.two λJ9 Fy=>(Un.not (Br.no (JE.mk (there J9 Fy lo hlo ?_))))
  funext z
  unfold au.ite;simp[he]
 rw[xab he]at hw;have lZ:lv af v<dep K.n (lv af) K.N lo/\lv af v<dep K.n (lv af) K.N hi:=by
  rcases hlt with e|e
  ·exact absurd e he
  exact e
 obtain⟨o,ho⟩:∃o,o=K.T ⟨v,lo,hi⟩:=⟨_,rfl⟩;cases o with
 |some r=>
  have hT:K.T ⟨v,lo,hi⟩=some r:=ho.symm;rw[hT]at hw;subst hw;refine Ext.two λJ9 Fy=>?_;have hN:=((h.ok.mid.nJ _ r).1 hT).1;refine Un.not (Br.no (JE.mk (there J9 Fy r (.inr ⟨_,hN⟩) ?_)))
  funext z
  rw[h.ok.mid.int.node hN];rfl
 |none=>
  have hT:K.T ⟨v,lo,hi⟩=none:=ho.symm;rw[hT]at hw;subst hw;refine Ext.two λJ9 Fy=>(Un.not (Br.yes (Nil.ptr (ag.mk ?_))));have hcap:=h.ok.mid.cap;refine aa.eq (Ad h.rep (m:=1) zO zO) (Un.not ?_);by_cases hroom:K.used+1<=K.cap;rotate_left
  ·rw[xay hroom];exact Br.yes (aZ.here (.inr (.inr ⟨rfl,rfl,by omega,he,hT⟩)))
  rw[xaL hroom];refine Br.no (Nil.ptr (ag.mk (Build.mk (cs:=dQ ⟨v,lo,hi⟩) zK ?_)));have hfit:∀{t:Nat},live K.N t->t<2\/t<K.us.length:=λht'=>by
   rcases ht' with ht'|⟨d,jY⟩
   ·exact .inl ht'
   exact .inr (h.ok.mid.fit jY)
  have Dg:K.n<=64:=by obtain⟨_,_,hO⟩:=h.rep;exact hO.ES
  refine aa.fq (Cv h.rep (d:=⟨v,lo,hi⟩) ⟨by show v<64;omega,hlo,hhi⟩ hv hT zO (hfit hlo) (hfit hhi) (λs=>by have:=h.yW s;omega)) ?_;rintro w C1 ⟨r,dy,cB,rfl,hN,h2,hrc,hlen,NA,Ec,u0,u1,u2,o0,o1,iy⟩;have Fx:=h.ok.mid.lay (r:=r) (d:=⟨v,lo,hi⟩) hN ⟨h2,hrc⟩ hv he hlo hhi hT (λh=>h) rfl zO hlen ⟨NA,Ec⟩ u0 u1 o0 o1;have KW:∀s d,K.N s=some d->up K.N r (some ⟨v,lo,hi⟩) s=some d:=λs d hs=>by rw[aJ (λe=>by rw[e,hN]at hs;cases hs)];exact hs
  have hne:∀{t:Nat},live K.N t->t≠r:=λht=>dx ht h2 hN;have Kv:Idle {K with N:=up K.N r (some ⟨v,lo,hi⟩),T:=uK K.T ⟨v,lo,hi⟩ (some r),used:=K.used+1,us:=dy,ho:=cB}:=λs hs=>by
   have hs':up K.N r (some ⟨v,lo,hi⟩) s=none:=hs;have B6:s≠r:=λe=>by subst e;rw[aE]at hs';cases hs'
   rw[aJ B6]at hs';show dy.getD s 0=0;by_cases Jp:2<=s
   ·rw[u1 s Jp B6,h.idle s hs',ew];have a1:lo≠s:=λe=>by
     rcases hlo with h5|⟨d,h5⟩
     ·omega
     rw[e,hs']at h5;cases h5
    have a2:hi≠s:=λe=>by
     rcases hhi with h5|⟨d,h5⟩
     ·omega
     rw[e,hs']at h5;cases h5
    simp[a1,a2]
   rw[u2 s zO,h.idle s hs']
  refine JE.mk (Fy _ _ λgs=>?_);refine aa.fq (qT iy Fx Kv (r:=r) (.inr ⟨_,aE⟩) (λ_=>by show cB.getD r 0<65535;rw[o0];omega)) ?_;rintro w C2 ⟨rfl,K2,dP,Gp,Ku,hm,hu,hp⟩;refine ae.j7 (Br.F ?_);have Gc:K2.n=K.n:=hm.n;have H8:K2.N=up K.N r (some ⟨v,lo,hi⟩):=hm.N;have hpos:Pos K2:=λs d hs=>by
   by_cases e:s=r
   ·rw[e];exact hp h2
   rw[H8,aJ e]at hs;have h3:=hu s;have h4:({K with N:=up K.N r (some ⟨v,lo,hi⟩),T:=uK K.T ⟨v,lo,hi⟩ (some r),used:=K.used+1,us:=dy,ho:=cB}:Kd).use s=dy.getD s 0:=rfl;rw[h4,u1 s (h.ok.mid.two hs).1 e]at h3;have:=h.ok.pos s d hs;omega
  have Dm:∀{t:Nat},live K.N t->dep K2.n (lv af) K2.N t=dep K.n (lv af) K.N t:=λ{t} ht=>by
   rw[H8,Gc];unfold dep;rw[aJ (hne ht)]
  have J5:WF K2.n (lv af) K2.N:=Gp.wf λ{s d} hs=>by
   rw[H8]at hs;by_cases e:s=r
   ·rw[e,aE]at hs;cases hs;rw[Dm hlo,Dm hhi];exact lZ
   rw[aJ e]at hs;rw[Dm (h.ok.wf.lo hs).1,Dm (h.ok.wf.hi hs).1];exact⟨(h.ok.wf.lo hs).2,(h.ok.wf.hi hs).2⟩
  have hS:∀s,live K.N s->up S r (ite S ⟨v,lo,hi⟩) s=S s:=λs hs=>aJ (hne hs);refine aZ.here (.inl ⟨r,K2,up S r (ite S ⟨v,lo,hi⟩),rfl,⟨dP,⟨Gp,hpos,by rw[Gc];exact h.ok.lv,J5⟩,by rw[Gc];exact h.od,Ku,trivial⟩,⟨Gc,hm.cap,by rw[hm.used];exact xak _,λs d hs=>by rw[H8];exact KW s d hs,hS,.inr ⟨_,by rw[H8];exact aE⟩,aE,λs=>?_⟩⟩);rw[hm.hold];show(if s=r/\2<=r then cB.getD s 0+1 else cB.getD s 0)=_;by_cases e:s=r
  ·subst e;rw[xae ⟨rfl,h2⟩,xae ⟨rfl,h2⟩,o0];have:K.hold s=0:=by
    apply Decidable.byContradiction;intro hne;obtain⟨d,hd⟩:=h.ok.mid.held s hne;rw[hN]at hd;cases hd
   omega
  rw[xab (λh=>e h.1),xab (λh=>e h.1),o1 s e]
end
theorem hnew{H:Hp}:bf [] H (λX=>X++H):=bf.left
theorem Am{n:Nat}(hn:n<=64):Fc zQ 95 #[iv (n:Int)] [] (λv H=>aO 3 .i64 v (iw (List.range n)) H):=by
 refine aW λg=>xS (dJ.ints zO zO λb=>?_);have h0:aO 3 .i64 (.slice (some ⟨b,0,none⟩) n n) (List.replicate n 0) [(b,.cells (aq .i64 (List.replicate n 0)) 3 zZ)]:=by
  have:=aO.made (T:=3) (kd:=.i64) (b:=b) (List.replicate n (0:Int));rw[xch]at this;exact this
 refine⟨λvs H=>∃j:Nat,vs=[iv (j:Int)]/\j<=n/\aO 3 .i64 (.slice (some ⟨b,0,none⟩) n n) (iw (List.range j)++List.replicate (n-j) 0) H,λvs _=>n-dR vs 0,JE.mk ⟨0,rfl,by omega,by simpa[iw]using h0⟩,?_⟩;rintro w H ⟨j,hw,hj,hs⟩ gs;simp only[xa0,xdl]at hw;subst hw;refine ae.fN (Br.dec (λhlt=>?_) (λhlt=>?_))
 ·refine hs.px (x:=(j:Int)) .here zP λC' hs'=>?_;refine ae.inc ?_;have e:(iw (List.range j)++List.replicate (n-j) 0).set j (j:Int)=iw (List.range (j+1))++List.replicate (n-(j+1)) 0:=by
   rw[xck _ _ zI];rw[show n-j=(n-(j+1))+1 by omega,xb4,xdC,dB];simp[iw]
  rw[e]at hs';exact aR.of (.refl _) ⟨j+1,rfl,by omega,hs'⟩ (by show n-(((j+1:Nat):Int).toNat)<n-(((j:Nat):Int).toNat);omega)
 obtain rfl:j=n:=by omega
 exact aZ.here (by simpa using hs)
theorem k7{n:Nat}(hn:n<=64):Fc zQ 46 #[iv (n:Int)] [] (λv H=>∃s,v=.tuple #[s,iv 0]/\aO 3 .i64 s (iw (List.range n)) H):=by
 refine aW λg=>o6 (ae.lss ?_);rw[xay zO];refine bL.or false (λ_=>ae.gtr ⟨rfl,by rw[xay zO]⟩) rfl λ_=>Br.no ?_;refine aa.fq (Am hn) ?_;intro s H hs;exact aZ.here ⟨s,rfl,hs⟩
def K0(n cap:Nat):Kd:=⟨n,cap,2,λ_=>none,λ_=>none,[],[]⟩
def S0:Nat->au.Fn:=λr _=>decide (r=1)
theorem gJ{n v:Nat}(hv:v<n):lv (List.range n) v=v:=by
 show(List.range n).getD v 0=v;simp[List.getD,hv]
theorem II{n cap:Nat}(hc:2<=cap/\cap<=1048576):Ok (K0 n cap) S0 (lv (List.range n)):=by
 have c0:∀k,gX (λ_=>none) k=0:=λk=>by induction k with|zero=>rfl|succ k ih=>rw[gX,ih];rfl
 have hm:iB (K0 n cap) S0 gv zero':={
  two:=λh=>nomatch h
  var:=λh=>nomatch h
  ne:=λh=>nomatch h
  lo:=λh=>nomatch h
  hi:=λh=>nomatch h
  int:=⟨λ_=>rfl,λ_=>rfl,λh=>nomatch h⟩
  nJ:=λd r=>⟨λh=>(nomatch h),λh=>nomatch h.1⟩
  use:=λh=>nomatch h
  len:=rfl
  fit:=λh=>nomatch h
  held:=λr h=>absurd (by simp[Kd.hold,K0]) h
  mx:=λr=>by simp[Kd.hold,K0]
  room:=by show 2=2+gX (λ_=>none) _;rw[c0]
  cap:=hc}
 refine⟨hm,λr d h=>(nomatch h),⟨λv hv=>?_,λu v hu hv h=>?_⟩,⟨λh=>(nomatch h),λh=>(nomatch h),λh=>(nomatch h),λh=>(nomatch h),λh=>(nomatch h),λh=>(nomatch h)⟩⟩
 ·have sC:v<n:=hv;rw[gJ sC];exact hv
 have p9:u<n:=hu;have sC:v<n:=hv;rwa [gJ p9,gJ sC]at h
theorem qK{pt n cap:Nat}{CT:Hp}(hu:jR pt n (λ_=>none) CT)(hc:2<=cap/\cap<=1048576):Fc zQ 48 #[iv (cap:Int),ptr pt] CT (λv H=>∃pa CA,v=.tuple #[.agg #[ptr pa,ptr pt,.slice none 0 0,.slice none 0 0],iv 0]/\eX pa cap 2 (λ_=>none) CA/\H=CA++CT):=by
 refine aW λg=>yl λb1 _=>?_;refine aa.fn hnew (DH hc) ?_;rintro v C ⟨pa,rfl,hA⟩;refine Ext.two (Build.mk (cs:=[ptr pa,ptr pt,.slice none 0 0,.slice none 0 0]) zK (St.q ?_));refine az.q ?_;exact aZ.mk (.cA .tail _) ⟨pa,C,rfl,hA,rfl⟩
theorem zz{n cap:Nat}(hn:1<=n/\n<=64)(hc:2<=cap/\cap<=1048576):Fc zQ 27 #[iv (n:Int),iv (cap:Int)] [] (λv C=>∃kp,v=.tuple #[ptr kp,iv 0]/\cc kp (K0 n cap) S0 (List.range n) (List.range n) [] C):=by
 refine aW λg=>o8 (aa.fq (k7 hn.2) ?_);rintro v CO ⟨s,rfl,hO⟩;obtain⟨sa,sl,sc,Nx⟩:∃a l c,s=Value.slice a l c:=by obtain⟨a,c,h⟩:=ay.len hO;exact⟨a,_,c,h⟩
 refine Ext.two (ae.j7 (bL.or false (λ_=>ae.lss ⟨rfl,by rw[xay zO]⟩) rfl λgs=>?_));refine bL.or false (λ_=>ae.lss ⟨rfl,by rw[xay zO]⟩) rfl λgs=>?_;refine bL.or false (λ_=>ae.gtr ⟨rfl,by rw[xay zO]⟩) rfl λgs=>Br.no ?_;refine aa.fn hnew (Co hn) ?_;rintro v CT ⟨pt,rfl,hT⟩;refine Ext.two (ae.j7 (Br.no (aa.fq (qK hT hc) ?_)));rintro v H ⟨pa,CA,rfl,hA,rfl⟩;refine Ext.two λP6 _=>(St.q ?_);refine ae.j7 (Br.no (DR.self (az.q ?_)));refine aa.fq (rJ (hO.ints.mono λ_ h=>h) zP) ?_;rintro v H ⟨CL,rfl,hL⟩;obtain⟨la,ll,lc,hle⟩:∃a l c,v=Value.slice a l c:=by obtain⟨a,c,h⟩:=ay.len hL;exact⟨a,_,c,h⟩
 refine⟨(.cons (.cA .right _)),?_⟩;subst Nx hle;refine Build.mk (cs:=[ptr pa,ptr pt,.slice none 0 0,.slice none 0 0,iv (n:Int),.slice sa sl sc,.slice la ll lc,.slice none 0 0]) zK λGA _=>?_;refine⟨(.skip (.cons (.cA .right _))),?_⟩
 let kb:pe:=⟨pa,pt,.slice none 0 0,.slice none 0 0,.slice sa sl sc,.slice la ll lc,.slice none 0 0,CA,CT,[],[],CO,CL,[]⟩
 refine aZ.mk (dY:=kb.hp GA n) ?_ ⟨GA,rfl,⟨kb,rfl,⟨hA,hT,aO.nil,aO.nil,hO,hL,aO.nil,⟨rfl,by simp[K0]⟩,hn.2,by simp[K0]⟩⟩,II hc,⟨by simp[K0],λl hl=>?_⟩,λs _=>by simp[Kd.use,K0],trivial⟩
 ·refine .cons (.skip ((aM.assoc).trans ?_));show aM (CA++(CT++(CL++CO))) (CA++(CT++([]++([]++(CO++(CL++[]))))));simp only[xa2,xaR];exact .cA (.cA (.perm xaK) _) _
 have hl':l<n:=hl;have e:(List.range n).getD l 0=l:=gJ hl';rw[e];exact⟨hl,gJ hl'⟩
end
end Go.Proofs
namespace au
structure Rm where
 n:Nat
 size:zL->Nat
 fit:zL->Nat->Bool
end au
set_option maxRecDepth 100000
namespace Go.Proofs
open Go Go.Sx Tryz
open au
def At(kp:Nat)(K:Kd)(S:Nat->au.Fn)(ord tr:zL)(C:Hp):Prop:=∃K' S' G8,cc kp K' S' ord G8 tr C/\Kept K S K' S'
def J0(K:Kd)(S:Nat->au.Fn)(ord:zL)(l:Nat):Prop:=LR K.n ord l (K.held S)+2<=K.cap
section
variable {kp:Nat} {K:Kd} {S:Nat->au.Fn} {ord tr:zL} {C:Hp}
theorem cc.at'{af:zL}(h:cc kp K S ord af tr C):At kp K S ord tr C:=⟨K,S,af,h,.refl _ _⟩
theorem At.ES(h:At kp K S ord tr C):K.n<=64:=by
 obtain⟨K',S',G8,h,hk⟩:=h;obtain⟨b,_,hO⟩:=h.rep;rw[<-hk.n];exact hO.ES
end
end Go.Proofs
namespace Go.Sx
open Go
section
variable {P:Program} {g:Gh} {H:Hp}
theorem di.nat{len size b o j:Nat}{kd:IntKind}{k:zV->Prop}(h1:j<len)(h:k (.pointer (some ⟨b,o+j*size,none⟩))):di len size (.pointer (some ⟨b,o,none⟩)) (.int kd (j:Int)) k:=
 ⟨b,o,kd,(j:Int),rfl,rfl,by omega,by omega,by simpa using h⟩
theorem br.Iv{o:Oper}{ρ:Operand->zV}{k:zV->Prop}{t e:TypeId}{q kd:IntKind}{n j:Nat}{x i:Operand}{l:List Int}{z:Int}(ho:o.op=.index t x i)(hx:ρ x=.agg (aq q l))(hi:ρ i=.int kd (j:Int))
 (ht:P.underlying t=some (.array n e))(hu:P.underlying e=some (.int q))(hz:bU P e=some 1)(hj:j<n)(hl:l[j]? =some z)(hk:k (.int q z)):br P g o ρ H k:=by
 obtain⟨inf,wW,hs⟩:=aG hz;refine⟨_,λw _=>?_,hk⟩;have hp:=jy (P:=P) hu hl w;have AH:(0:Int)<=(j:Int)/\(j:Int)<(n:Int):=by omega
 simp only[execOp,ho,Instr.index,hx,hi,asIntOf,Sem.run_bind,Sem.run_pure,Result.andThen_ok,run_underlying ht,run_sizeOf wW,hs,xae AH,xbx,xb0,hp]
end
end Go.Sx
namespace au
open cI
def OO(m v:Nat):Nat:=if m.testBit v then m^^^2^v else m
def rest(m:Nat)(ord:zL):Nat->Nat
 |0=>m
 |k+1=>OO (rest m ord k) (ord.getD k 0)
def flat(n s:Nat):Rm:=⟨n,λ_=>s,λ_ _=>true⟩
end au
namespace au
open cI
section
variable {n l:Nat} {ord:zL} {F G:Fn->Prop} {f c:Fn}
theorem oT:∀l g,fs ord (λg=>F g\/G g) l g↔fs ord F l g\/fs ord G l g
 |0,g=>xc0
 |l+1,g=>by
  constructor
  ·rintro⟨f,hf,b,rfl⟩;rcases(oT l f).1 hf with h|h
   ·exact .inl ⟨f,h,b,rfl⟩
   exact .inr ⟨f,h,b,rfl⟩
  rintro(⟨f,hf,b,rfl⟩|⟨f,hf,b,rfl⟩)
  ·exact⟨f,(oT l f).2 (.inl hf),b,rfl⟩
  exact⟨f,(oT l f).2 (.inr hf),b,rfl⟩
theorem zy(g:Fn):aC n ord (λg=>F g\/G g) g↔aC n ord F g\/aC n ord G g:=by
 constructor
 ·rintro⟨l,hl,hf,hh⟩;rcases(oT l g).1 hf with h|h
  ·exact .inl ⟨l,hl,h,hh⟩
  exact .inr ⟨l,hl,h,hh⟩
 rintro(⟨l,hl,hf,hh⟩|⟨l,hl,hf,hh⟩)
 ·exact⟨l,hl,(oT l g).2 (.inl hf),hh⟩
 exact⟨l,hl,(oT l g).2 (.inr hf),hh⟩
theorem cT{v:Nat}(h:¬cU f v)(x:Nat)(b:Bool):f (aK x v b)=f x:=by
 have h0:f (aK x v false)=f (aK x v true):=xaX λhne=>h ⟨x,hne⟩;have h1:=fA x v
 conv=>rhs;rw[<-h1]
 cases b<;>cases x.testBit v<;>simp[h0]
theorem pQ(hi:∀j,j<l->¬cU f (ord.getD j 0)):∀k,k<=l->fs ord (λg=>g=f) k f
 |0,_=>rfl
 |k+1,hk=>⟨f,pQ hi k zO,false,funext λx=>(cT (hi k zO) x false).symm⟩
theorem pR(hi:∀j,j<l->¬cU f (ord.getD j 0)):∀k,k<=l->∀g,fs ord (λg=>g=f) k g->g=f
 |0,_,g,h=>h
 |k+1,hk,g,h=>by
  obtain⟨f',hf,b,rfl⟩:=h;obtain rfl:=pR hi k zO f' hf;exact funext λx=>cT (hi k zO) x b
theorem oe(hi:∀j,j<l->¬cU f (ord.getD j 0)){b:Bool}(hc:c=λx=>f (aK x (ord.getD l 0) b)):
  (∀j,j<l+1->¬cU c (ord.getD j 0))/\∀g,aC n ord (λg=>g=c) g->aC n ord (λg=>g=f) g:=by
 have h1:fs ord (λg=>g=f) (l+1) c:=⟨f,pQ hi l (xak _),b,hc⟩;have h2:∀j,j<l+1->¬cU c (ord.getD j 0):=λj hj=>jI (l+1) c h1 j hj;refine⟨h2,?_⟩;rintro g ⟨m,hm,hf,hh⟩;by_cases e:m<l+1
 ·obtain rfl:=pR h2 m zO g hf;exact absurd hh (h2 m e)
 have key:∀d g,fs ord (λg=>g=c) (l+1+d) g->fs ord (λg=>g=f) (l+1+d) g:=λd=>by
  induction d with
  |zero=>intro g hg;obtain rfl:=pR h2 (l+1) (xak _) g hg;exact h1
  |succ d ih=>rintro g ⟨f',wZ,b',rfl⟩;exact⟨f',ih f' wZ,b',rfl⟩
 obtain⟨d,rfl⟩:∃d,m=l+1+d:=⟨m-(l+1),by omega⟩;exact⟨_,hm,key d g hf,hh⟩
theorem oo(hi:∀j,j<l->¬cU f (ord.getD j 0))(hl:l<n)(hh:cU f (ord.getD l 0)):aC n ord (λg=>g=f) f:=⟨l,hl,pQ hi l (xak _),hh⟩
end
section
variable {K:Kd} {S:Nat->Fn} {af:Nat->Nat} {ord:zL}
theorem Ok.below(h:Ok K S af)(ho:Ord K.n af ord){r l:Nat}(hr:live K.N r)(hl:l<=K.n)(hi:∀j,j<l->¬cU (S r) (ord.getD j 0)):l<=dep K.n af K.N r:=by
 cases e:K.N r with
 |none=>rw[aU e];exact hl
 |some d=>
  rw[an e];refine xaX λhlt=>?_;have lZ:af d.v<l:=Nat.lt_of_not_le hlt;have:=hi _ lZ;rw[ho.of h.lv (h.mid.var e)]at this;exact this (fU h.wf h.lv h.mid.int e)
theorem Ok.roomFor(h:Ok K S af)(ho:Ord K.n af ord){U:Fn->Prop}{k:Nat}(hk:nP U k)(hfit:k+2<=K.cap)(hU:∀g,aC K.n ord (K.held S) g->U g){d:Nd}
 (hlo:live K.N d.lo)(hhi:live K.N d.hi)(hne:d.lo≠d.hi)(hv:d.v<K.n)(hlt:af d.v<dep K.n af K.N d.lo/\af d.v<dep K.n af K.N d.hi)(hg:U (ite S d))(hT:K.T d=none):K.used<K.cap:=by
 have hs:=h.size ho;have hu:=h.mid.room;obtain⟨l1,a1,a2,a3⟩:=hs;have Fb:ite S d∉l1:=λhm=>by
  obtain⟨r,e,hr,he⟩:=(kW h.wf h.lv ho h.mid.int (λr hr=>.inr (h.mid.held r hr)) h.reach (ite S d)).1 ((a3 _).2 hm);have KS:¬K.N r=some d:=λhN=>by
   have:=(h.mid.nJ d r).2 ⟨hN,λx=>x⟩;rw[hT]at this;cases this
  apply KS;have B6:S r=ite S d:=he.symm;have Aq:e.v=d.v:=by
   have e1:=h.lv.lt e.v (h.mid.var hr);have e2:=h.lv.lt d.v hv;rcases xds (af e.v) (af d.v)with hh|hh|hh
   ·exfalso;obtain⟨z,hz⟩:=fU h.wf h.lv h.mid.int hr;rw[B6]at hz;apply hz;unfold ite;have i1:=h.wf.bK h.lv h.mid.int hlo (h.mid.var hr) zO;have i2:=h.wf.bK h.lv h.mid.int hhi (h.mid.var hr) zO;have q4:d.v≠e.v:=λjX=>by rw[jX]at hh;omega
    simp only[aj,xab q4,i1,i2]
   ·exact h.lv.inj _ _ (h.mid.var hr) hv hh
   exfalso;have hx:=h.wf.bK h.lv h.mid.int (r:=r) (.inr ⟨e,hr⟩) hv (by rw[an hr];exact hh);apply hne;refine h.wf.same h.lv h.mid.int hlo hhi λx=>?_;have i1:=h.wf.bK h.lv h.mid.int hlo hv hlt.1;have i2:=h.wf.bK h.lv h.mid.int hhi hv hlt.2;have q1:=hx x false;have q2:=hx x true;rw[B6]at q1 q2;have q3:=q1.trans q2.symm;unfold ite at q3;simp only[aj,xaS,i1,i2,xas,xaG]at q3;exact q3
  have gS:∀(b:Bool) x,S (if b then e.hi else e.lo) x=S (if b then d.hi else d.lo) x:=λb x=>by
   rw[<-h.wf.child h.lv h.mid.int hr x b,B6,Aq];have i1:=h.wf.bK h.lv h.mid.int hlo hv hlt.1;have i2:=h.wf.bK h.lv h.mid.int hhi hv hlt.2;unfold ite;rw[aj,xae rfl,i1,i2];cases b<;>rfl
  have e1:e.lo=d.lo:=h.wf.same h.lv h.mid.int (h.mid.lo hr) hlo λx=>gS false x;have e2:e.hi=d.hi:=h.wf.same h.lv h.mid.int (h.mid.hi hr) hhi λx=>gS true x;have HP:∀a b:Nd,a.v=b.v->a.lo=b.lo->a.hi=b.hi->a=b:=λa b h1 h2 h3=>by
   cases a;cases b;cases h1;cases h2;cases h3;rfl
  rw[hr,HP e d Aq e1 e2]
 obtain⟨l2,b1,b2,b3⟩:=hk;have:=bG (l:=ite S d::l1) (l':=l2) (xaT.2 ⟨Fb,a1⟩) λg Jb=>by
  rcases xaf.1 Jb with rfl|Jb
  ·exact(b3 _).1 hg
  exact(b3 _).1 (hU g ((a3 g).2 Jb))
 rw[xai]at this;omega
end
end au
namespace au
open cI
def dU(N:cY)(v:Nat)(b:Bool)(r:Nat):Nat:=match N r with
 |some d=>if d.v=v then(if b then d.hi else d.lo)else r
 |none=>r
def ez(N:cY)(v:Nat)(b:Bool)(q:zL):zL:=q.map (dU N v b)
structure nq(n:Nat)(af:Nat->Nat)(N:cY)(q:zL)(v:Nat):Prop where
 lt:v<n
 ex:∃r∈q,∃d,N r=some d/\d.v=v
 le:∀r∈q,af v<=dep n af N r
inductive Tree(n:Nat)(af:Nat->Nat)(N:cY):zL->Nat->Prop
 |leaf {q:zL} (h:∀r∈q,N r=none):Tree n af N q 0
 |node {q:zL} {v a b:Nat} (h:nq n af N q v) (ha:Tree n af N (ez N v false q) a) (hb:Tree n af N (ez N v true q) b):Tree n af N q (a+b+1)
def mj(t:Bool->Bool->Bool->Bool)(S:Nat->Fn)(q:zL):Fn:=λx=>t (S (q.getD 0 0) x) (S (q.getD 1 0) x) (S (q.getD 2 0) x)
section
variable {n:Nat} {af:Nat->Nat} {N:cY} {S:Nat->Fn} {q:zL} {v:Nat}
theorem nq.uniq(hl:mr n af){u:Nat}(h:nq n af N q v)(h':nq n af N q u):v=u:=by
 obtain⟨r,hr,d,hd,rfl⟩:=h.ex;obtain⟨s,hs,e,he,rfl⟩:=h'.ex;have a:=h.le s hs;have b:=h'.le r hr;rw[an he]at a;rw[an hd]at b;exact hl.inj _ _ h.lt h'.lt zO
theorem jN(h:WF n af N)(hl:mr n af)(hi:Interp N S){r:Nat}(hr:live N r)(hv:v<n)(hle:af v<=dep n af N r)(b:Bool):
  (∀x,S (dU N v b r) x=S r (aK x v b))/\live N (dU N v b r)/\af v+1<=dep n af N (dU N v b r):=by
 have hlt:=hl.lt v hv;unfold dU;cases e:N r with
 |none=>
  simp only;refine⟨λx=>?_,hr,by rw[aU e];omega⟩;exact(h.bK hl hi hr hv (by rw[aU e];exact hlt) x b).symm
 |some d=>
  simp only;rw[an e]at hle;by_cases ev:d.v=v
  ·rw[xae ev];subst ev;refine⟨λx=>(h.child hl hi e x b).symm,?_,?_⟩
   ·cases b
    ·exact(h.lo e).1
    exact(h.hi e).1
   cases b
   ·exact(h.lo e).2
   exact(h.hi e).2
  rw[xab ev];have hne:af v≠af d.v:=λe2=>ev (hl.inj _ _ (h.var e) hv e2.symm);refine⟨λx=>(h.bK hl hi hr hv (by rw[an e];omega) x b).symm,hr,by rw[an e];omega⟩
theorem Bw(b:Bool):(ez N v b q).length=q.length:=by simp[ez]
theorem Bx{b:Bool}{i:Nat}(hi:i<q.length):(ez N v b q).getD i 0=dU N v b (q.getD i 0):=by
 simp[ez,List.getD,xad hi]
theorem mq(h:WF n af N)(hl:mr n af)(hi:Interp N S)(hq:∀r∈q,live N r)(ht:nq n af N q v)(b:Bool):
  (∀r∈ez N v b q,live N r)/\(∀r∈ez N v b q,af v+1<=dep n af N r):=by
 constructor
 ·intro r hr;obtain⟨s,hs,rfl⟩:=xan.1 hr;exact(jN h hl hi (hq s hs) ht.lt (ht.le s hs) b).2.1
 intro r hr;obtain⟨s,hs,rfl⟩:=xan.1 hr;exact(jN h hl hi (hq s hs) ht.lt (ht.le s hs) b).2.2
theorem Dz(h:WF n af N)(hl:mr n af)(hi:Interp N S)(h3:q.length=3)(hq:∀r∈q,live N r)(ht:nq n af N q v)(t:Bool->Bool->Bool->Bool)(b:Bool):mj t S (ez N v b q)=λx=>mj t S q (aK x v b):=by
 funext x
 have key:∀i,i<3->S ((ez N v b q).getD i 0) x=S (q.getD i 0) (aK x v b):=λi Fl=>by
  have hi':i<q.length:=by omega
  rw[Bx hi'];have hm:q.getD i 0∈q:=by rw[xaA,xad hi'];exact xaN _
  exact(jN h hl hi (hq _ hm) ht.lt (ht.le _ hm) b).1 x
 unfold mj;rw[key 0 zO,key 1 zO,key 2 zO]
theorem xn(h:WF n af N)(hl:mr n af)(hi:Interp N S){ord:zL}(ho:Ord n af ord)(h3:q.length=3)(hq:∀r∈q,live N r){l:Nat}(Dh:l<=n)(hle:∀r∈q,l<=dep n af N r)(t:Bool->Bool->Bool->Bool):∀j,j<l->¬cU (mj t S q) (ord.getD j 0):=by
 rintro j hj ⟨x,hx⟩;apply hx;obtain⟨o1,o2⟩:=ho.at' j zO;have key:∀i,i<3->∀b,S (q.getD i 0) (aK x (ord.getD j 0) b)=S (q.getD i 0) x:=λi Fl b=>by
  have hi':i<q.length:=by omega
  have hm:q.getD i 0∈q:=by rw[xaA,xad hi'];exact xaN _
  exact h.bK hl hi (hq _ hm) o1 (by rw[o2];exact xbr hj (hle _ hm)) x b
 unfold mj;simp only[key 0 zO,key 1 zO,key 2 zO]
theorem xo(hi:Interp N S)(h3:q.length=3)(hq:∀r∈q,r<2)(t:Bool->Bool->Bool->Bool)(x:Nat):mj t S q x=t (decide (q.getD 0 0=1)) (decide (q.getD 1 0=1)) (decide (q.getD 2 0=1)):=by
 have key:∀i,i<3->S (q.getD i 0) x=decide (q.getD i 0=1):=λi Fl=>by
  have hi':i<q.length:=by omega
  have hm:q.getD i 0∈q:=by rw[xaA,xad hi'];exact xaN _
  have:=hq _ hm;have h2:q.getD i 0=0\/q.getD i 0=1:=by omega
  rcases h2 with e|e<;>rw[e]
  ·rw[hi.zero];rfl
  rw[hi.one];rfl
 unfold mj;rw[key 0 zO,key 1 zO,key 2 zO]
theorem y6(h:WF n af N):∀{q:zL},(∃r∈q,∃d,N r=some d)->(hl:mr n af)->∃v,nq n af N q v
 | [],he,_=>by obtain⟨r,hr,_⟩:=he;cases hr
 |s::q,he,hl=>by
  by_cases hq:∃r∈q,∃d,N r=some d
  ·obtain⟨v,hv⟩:=y6 h hq hl;cases es:N s with
   |none=>
    refine⟨v,hv.lt,?_,λr hr=>?_⟩
    ·obtain⟨r,hr,x⟩:=hv.ex;exact⟨r,by simp[hr],x⟩
    rcases xaf.1 hr with rfl|hr
    ·rw[aU es];exact xbR (hl.lt v hv.lt)
    exact hv.le r hr
   |some d=>
    by_cases hlt:af d.v<=af v
    ·refine⟨d.v,h.var es,⟨s,by simp,d,es,rfl⟩,λr hr=>?_⟩;rcases xaf.1 hr with rfl|hr
     ·rw[an es];exact xak _
     exact xbs hlt (hv.le r hr)
    refine⟨v,hv.lt,?_,λr hr=>?_⟩
    ·obtain⟨r,hr,x⟩:=hv.ex;exact⟨r,by simp[hr],x⟩
    rcases xaf.1 hr with rfl|hr
    ·rw[an es];omega
    exact hv.le r hr
  obtain⟨r,hr,d,hd⟩:=he;rcases xaf.1 hr with rfl|hr
  ·refine⟨d.v,h.var hd,⟨r,by simp,d,hd,rfl⟩,λs hs=>?_⟩;rcases xaf.1 hs with rfl|hs
   ·rw[an hd];exact xak _
   have:N s=none:=by
    cases e:N s with
    |none=>rfl
    |some d'=>exact absurd ⟨s,hs,d',e⟩ hq
   rw[aU this];exact xbR (hl.lt _ (h.var hd))
  exact absurd ⟨r,hr,d,hd⟩ hq
theorem Cq(h:WF n af N)(hl:mr n af)(hi:Interp N S):∀(k l:Nat) (q:zL),n-l<=k->l<=n->(∀r∈q,live N r)->(∀r∈q,l<=dep n af N r)->∃c,Tree n af N q c/\c+1<=2^(n-l):=by
 intro k;induction k with
 |zero=>
  intro l q hk Dh hq hd;refine⟨0,.leaf λr hr=>?_,xcH⟩;cases e:N r with
  |none=>rfl
  |some d=>have:=hd r hr;rw[an e]at this;have:=hl.lt _ (h.var e);omega
 |succ k ih=>
  intro l q hk Dh hq hd;by_cases he:∃r∈q,∃d,N r=some d
  ·obtain⟨v,hv⟩:=y6 h he hl;have hlv:=hl.lt v hv.lt;have rZ:l<=af v:=by
    obtain⟨r,hr,d,jY,rfl⟩:=hv.ex;have:=hd r hr;rwa [an jY]at this
   obtain⟨f1,f2⟩:=mq (S:=S) h hl hi hq hv false;obtain⟨t1,t2⟩:=mq (S:=S) h hl hi hq hv true;obtain⟨a,ha,PW⟩:=ih (af v+1) _ zO hlv f1 f2;obtain⟨b,hb,Jf⟩:=ih (af v+1) _ zO hlv t1 t2;refine⟨a+b+1,.node hv ha hb,?_⟩;have e1:2^(n-af v)=2*2^(n-(af v+1)):=by
    rw[show n-af v=(n-(af v+1))+1 by omega,xcl,xbf]
   have e2:2^(n-af v)<=2^(n-l):=xaI zD zO;omega
  refine⟨0,.leaf λr hr=>?_,xcH⟩;cases e:N r with
  |none=>rfl
  |some d=>exact absurd ⟨r,hr,d,e⟩ he
def fW(N:cY)(v:Nat)(b:Bool)(q:zL)(i:Nat):zL:=(ez N v b q).take i++q.drop i
theorem qM{b:Bool}{i:Nat}(hi:i<=q.length):(fW N v b q i).length=q.length:=by simp[fW,ez];omega
theorem oz(b:Bool):fW N v b q 0=q:=by simp[fW]
theorem zW(b:Bool):fW N v b q q.length=ez N v b q:=by
 unfold fW;rw[xcL (by rw[Bw];exact xak _),xbF,xaR]
theorem j9{b:Bool}{i r:Nat}(hr:q[i]? =some r):(fW N v b q i).set i (dU N v b r)=fW N v b q (i+1):=by
 have hi:=(xag.1 hr).1;have he:=(xag.1 hr).2;have hl:((ez N v b q).take i).length=i:=by simp[ez];omega
 have hc:(ez N v b q)[i]? =some (dU N v b r):=by simp[ez,hr]
 unfold fW;rw[xck _ _ zO,hl,xcj,xaW hi,xcC,xbX,hc,xau];rfl
theorem oB{b:Bool}{i r:Nat}(hr:q[i]? =some r)(h:dU N v b r=r):fW N v b q (i+1)=fW N v b q i:=by
 rw[<-j9 hr,h];have hi:=(xag.1 hr).1;have he:=(xag.1 hr).2;have hl:((ez N v b q).take i).length=i:=by simp[ez];omega
 unfold fW;rw[xck _ _ zO,hl,xcj,xaW hi,xcC,he]
end
end au
set_option maxRecDepth 100000
namespace Go.Proofs
open Go Go.Sx Tryz
section
open au
noncomputable instance {K:Kd}{S:Nat->au.Fn}{ord:zL}{l:Nat}:Decidable (J0 K S ord l):=Nat.decLe _ _
end
section
open au
def rep(b a s:Nat):zV:=.agg #[iv (b:Int),iv (a:Int),iv (s:Int),.bool false]
end
end Go.Proofs
namespace au
open cI
section
variable {n v:Nat} {bs:List Bool} {lo hi ws:zL}
theorem Bc(h:∀v,v<n->¬cU (fo n ws) v)(x:Nat):fo n ws x=fo n ws 0:=by
 have key:∀k,k<=n->fo n ws (x%2^k)=fo n ws 0:=λk=>by
  induction k with
  |zero=>intro _;rw[show x%2^0=0 from Nat.mod_one x]
  |succ k ih=>
   intro hk;rw[<-ih zO];have e:x%2^(k+1)=aK (x%2^k) k (x.testBit k):=by
    apply xa6;intro i;rw[aj,xa4,xa4];by_cases e:i=k
    ·subst e;simp
    rw[xab e];congr 1;exact xcT.2 zO
   rw[e,cT (h k zO)]
 have:=key n (xak _);rw[<-this];unfold fo;rw[Nat.mod_mod]
end
end au
set_option maxRecDepth 100000
namespace Go.Proofs
open Go Go.Sx Tryz
section
open au
theorem bV{ws:zL}{i:Nat}(h:i<ws.length):(iw ws)[i]? =some ((ws.getD i 0:Nat):Int):=by
 rw[gO (w:=ws.getD i 0)];rw[xaA,xad h];rfl
def He(n:Nat)(p:List Int):Prop:=p.length=n/\∀v:Nat,v<n->p.count (v:Int)=1
instance (n:Nat)(p:List Int):Decidable (He n p):=by unfold He;infer_instance
end
section
open au
section
variable {n:Nat} {ord:zL} {L:cI.Fs}
theorem vL:∀k,(cur n ord L k).length<=2^k*L.length
 |0=>by rw[cur,Nat.pow_zero,Nat.one_mul];exact wk L
 |k+1=>by
  have h1:=AV n (ord.getD k 0) (cur n ord L k);have h2:=vL k;rw[cur,xcl,xbf (2^k) 2,xcs];omega
end
theorem A3{ord:zL}{F G:au.Fn->Prop}(h:∀g,F g->G g):∀l g,fs ord F l g->fs ord G l g
 |0,g,hg=>h g hg
 |l+1,g,⟨f,hf,b,e⟩=>⟨f,A3 h l f hf,b,e⟩
theorem cr{n:Nat}{ord:zL}{F G:au.Fn->Prop}(h:∀g,F g->G g){g:au.Fn}(hg:aC n ord F g):aC n ord G g:=let ⟨l,a,b,c⟩:=hg;⟨l,a,A3 h l g b,c⟩
structure BY(K:Kd)(S:Nat->au.Fn)(K':Kd)(S':Nat->au.Fn)(f:au.Fn)(r:Nat):Prop where
 n:K'.n=K.n
 cap:K'.cap=K.cap
 N:∀s d,K.N s=some d->K'.N s=some d
 fn:∀s,live K.N s->S' s=S s
 live:live K'.N r
 is:S' r=f
 hold:∀s,K'.hold s=K.hold s+if s=r/\2<=r then 1 else 0
theorem oF{N N':cY}(h:∀s d,N s=some d->N' s=some d){s:Nat}(hs:live N s):live N' s:=by
 rcases hs with hs|⟨d,hd⟩
 ·exact .inl hs
 exact .inr ⟨d,h s d hd⟩
theorem sx{K K5:Kd}{S S5:Nat->au.Fn}{af:Nat->Nat}(hK:Ok K S af)(Jo:Ok K5 S5 af)(hold:∀s,K.hold s≠0->K5.hold s≠0)(h3:∀s d d',K.N s=some d->K5.N s=some d'->d'=d):
  ∀(k s:Nat) (d:Nd),K.N s=some d->af d.v<=k->K5.N s=some d:=by
 intro k;induction k with
 |zero=>
  intro s d hd hl;have fin:live K5.N s->K5.N s=some d:=λhs=>by
   rcases hs with hs|⟨d',jY⟩
   ·have:=(hK.mid.two hd).1;omega
   rw[jY,h3 s d d' hd jY]
  rcases hK.reach s d hd with h|⟨p,e,hp,he⟩
  ·exact fin (.inr (Jo.mid.held s (hold s h)))
  have h1:=hK.wf.lo hp;have h2:=hK.wf.hi hp;rcases he with rfl|rfl
  ·have:=h1.2;rw[an hd]at this;omega
  have:=h2.2;rw[an hd]at this;omega
 |succ k ih=>
  intro s d hd hl;have fin:live K5.N s->K5.N s=some d:=λhs=>by
   rcases hs with hs|⟨d',jY⟩
   ·have:=(hK.mid.two hd).1;omega
   rw[jY,h3 s d d' hd jY]
  rcases hK.reach s d hd with h|⟨p,e,hp,he⟩
  ·exact fin (.inr (Jo.mid.held s (hold s h)))
  have h1:=hK.wf.lo hp;have h2:=hK.wf.hi hp;rcases he with rfl|rfl
  ·have:=h1.2;rw[an hd]at this;exact fin (Jo.mid.lo (ih p e hp zO))
  have:=h2.2;rw[an hd]at this;exact fin (Jo.mid.hi (ih p e hp zO))
end
end Go.Proofs
namespace au
open cI
section
variable {K:Kd} {S:Nat->Fn} {af:Nat->Nat}
theorem Ok.CK(h:Ok K S af){d e:Nd}{r:Nat}
 (hlo:live K.N d.lo)(hhi:live K.N d.hi)(hne:d.lo≠d.hi)(hv:d.v<K.n)(hlt:af d.v<dep K.n af K.N d.lo/\af d.v<dep K.n af K.N d.hi)(hr:K.N r=some e)(B6:S r=ite S d):e=d:=by
 have Aq:e.v=d.v:=by
  have e1:=h.lv.lt e.v (h.mid.var hr);have e2:=h.lv.lt d.v hv;rcases xds (af e.v) (af d.v)with hh|hh|hh
  ·exfalso;obtain⟨z,hz⟩:=fU h.wf h.lv h.mid.int hr;rw[B6]at hz;apply hz;unfold ite;have i1:=h.wf.bK h.lv h.mid.int hlo (h.mid.var hr) zO;have i2:=h.wf.bK h.lv h.mid.int hhi (h.mid.var hr) zO;have q4:d.v≠e.v:=λjX=>by rw[jX]at hh;omega
   simp only[aj,xab q4,i1,i2]
  ·exact h.lv.inj _ _ (h.mid.var hr) hv hh
  exfalso;have hx:=h.wf.bK h.lv h.mid.int (r:=r) (.inr ⟨e,hr⟩) hv (by rw[an hr];exact hh);apply hne;refine h.wf.same h.lv h.mid.int hlo hhi λx=>?_;have i1:=h.wf.bK h.lv h.mid.int hlo hv hlt.1;have i2:=h.wf.bK h.lv h.mid.int hhi hv hlt.2;have q1:=hx x false;have q2:=hx x true;rw[B6]at q1 q2;have q3:=q1.trans q2.symm;unfold ite at q3;simp only[aj,xaS,i1,i2,xas,xaG]at q3;exact q3
 have gS:∀(b:Bool) x,S (if b then e.hi else e.lo) x=S (if b then d.hi else d.lo) x:=λb x=>by
  rw[<-h.wf.child h.lv h.mid.int hr x b,B6,Aq];have i1:=h.wf.bK h.lv h.mid.int hlo hv hlt.1;have i2:=h.wf.bK h.lv h.mid.int hhi hv hlt.2;unfold ite;rw[aj,xae rfl,i1,i2];cases b<;>rfl
 have e1:e.lo=d.lo:=h.wf.same h.lv h.mid.int (h.mid.lo hr) hlo λx=>gS false x;have e2:e.hi=d.hi:=h.wf.same h.lv h.mid.int (h.mid.hi hr) hhi λx=>gS true x;have HP:∀a b:Nd,a.v=b.v->a.lo=b.lo->a.hi=b.hi->a=b:=λa b h1 h2 h3=>by
  cases a;cases b;cases h1;cases h2;cases h3;rfl
 exact HP e d Aq e1 e2
end
end au
set_option maxRecDepth 100000
namespace Go.Proofs
open Go Go.Sx Tryz
open au
def dc(bw kp:Nat)(vl vm:zV):Nat×Obj:=(bw,.cells #[ptr kp,vl,vm] 289 zZ)
abbrev Q3:=Nat×Nat×Nat
def l3(q:Q3):zL:=[q.1,q.2.1,q.2.2]
def kq(q:Q3):zV:=.agg (aq .u32 (iw (l3 q)))
theorem C9{a b:zL}(h:iw a=iw b):a=b:=by
 induction a generalizing b with
 |nil=>cases b with
  |nil=>rfl
  |cons y b=>simp[iw]at h
 |cons x a ih=>cases b with
  |nil=>simp[iw]at h
  |cons y b=>
   simp only[iw,xaC,xa0]at h;rw[Int.ofNat.inj h.1,ih h.2]
theorem EX{a b:Q3}(h:l3 a=l3 b):a=b:=by
 obtain⟨a1,a2,a3⟩:=a;obtain⟨b1,b2,b3⟩:=b;simp[l3]at h;rw[h.1,h.2.1,h.2.2]
theorem mO(a b:Q3):vY zQ 237 (kq a) (kq b) (decide (a=b)):=by
 have:=vY.array (P:=zQ) (t:=237) (e:=82) (q:=.u32) (n:=3) zK zK zK (iw (l3 a)) (iw (l3 b)) rfl rfl;have e:decide (iw (l3 a)=iw (l3 b))=decide (a=b):=xcT.2 ⟨λh=>EX (C9 h),λh=>by rw[h]⟩;rw[e]at this;exact this
theorem ja(a:Q3):jl zQ 237 (kq a):=jl.array (P:=zQ) (t:=237) (e:=82) (q:=.u32) (n:=3) zK zK zK _ rfl
theorem pE(a:Q3):Instr.sameBits 10000 (kq a) (kq a)=true:=iD 9998 λx hx=>.inl (by simp[aq]at hx;obtain⟨n,_,rfl⟩:=hx;exact⟨_,_,rfl⟩)
section
variable {kp bw:Nat} {vl vm:zV} {K:Kd} {S:Nat->au.Fn} {ord af tr:zL} {C:Hp}
theorem xD{H:Hp}{r:List zV}{K:zV->Hp->Prop}(hl:r.length=3)(h:∀b,K (.slice (some ⟨b,0,none⟩) 1 1) ((b,.cells r.toArray 201 zZ)::H)):ak zQ 293 1 [(0,.agg r.toArray)] H K:=
 ak.one (r:=r) (e:=201) (k:=3) (z:=.agg #[iv 0,.int .u32 0,.int .u32 0]) zK zK zK zD hl h
theorem oZ{X Y:Hp}(h:cW kp K ord af tr C)(q:Q3)(hq:∀r∈l3 q,r<4294967296):
  Fc zQ 208 #[ptr bw,kq q] (dc bw kp vl vm::(X++(Y++C))) (λv H=>∃CN,H=CN++(dc bw kp vl vm::(X++(Y++C)))/\ay 201 3 v ((l3 q).map (got K.N)) CN):=by
 have hlen:(l3 q).length=3:=rfl;refine aW λg=>tA λb1 _=>?_;refine az.q ?_;refine⟨λvs H=>∃(i:Nat) (u:zV) (CN:Hp),vs=[u,iv (i:Int)]/\i<=3/\H=CN++((b1,.cells (aq .u32 (iw (l3 q))) 237 zZ)::(dc bw kp vl vm::(X++(Y++C))))/\ay 201 3 u (((l3 q).take i).map (got K.N)) CN,λvs _=>3-dR vs 1,
  JE.mk ⟨0,_,[],rfl,by omega,rfl,ay.nil _ _⟩,?_⟩
 rintro w8 w9 H ⟨i,u,CN,⟨⟩,hi,rfl,hN⟩ gs;refine ae.fN (b:=3) (Br.dec (λhlt=>?_) (λhlt=>?_))
 ·have lZ:i<(l3 q).length:=hlt;obtain⟨r,hr⟩:∃r,(l3 q)[i]? =some r:=⟨_,xad lZ⟩;have Kl:=hq r (xaJ hr);refine br.Iv (t:=237) (e:=82) (q:=.u32) (x:=.tmp 10) (i:=.tmp 11) (l:=iw (l3 q)) (z:=(r:Int)) (kd:=.i64) (n:=3) (j:=i) zK rfl rfl zK zK zK hlt (gO hr) ?_;refine Ld.n ?_;refine aa.eq (args:=#[ptr kp,u32 r]) (jD h Kl) (Ext.two λOV _=>(St.whole (r:=got K.N r) (by exact .head _) rfl (aP _ _).1 (aP _ _).2 ?_));refine az.whole (r:=got K.N r) (by exact .head _) (aP _ _).1 ?_;refine xD (aP _ _).1 λbx=>?_;refine hN.n8 (r:=got K.N r) (.cons (.cons .left)) (by exact .head _) (aP _ _).1 (aP _ _).2 ⟨[iv 0,.int .u32 0,.int .u32 0],rfl,rfl⟩ zP zP λv' C' ho=>?_;refine ae.inc (aR.of (.skip .tail) ⟨i+1,v',C',rfl,by omega,rfl,?_⟩ (by simp only[dR];omega));rw[xbX,hr,xaz];exact ho
 obtain rfl:i=3:=by omega
 rw[xcL (by rw[hlen];exact xak _)]at hN;exact aZ.mk (.cA .tail _) ⟨CN,rfl,hN⟩
theorem vP{n:Nat}{kZ:Nat->Nat}{N:cY}{B:Hp}{vn:zV}{lvl:zL}(hw:dc bw kp vl vm∈B)(hl:e7 .i64 B vl (iw lvl))(rZ:lvl.length=n)(hlv:∀v,v<n->lvl.getD v 0=kZ v)(q:Q3)(hn:Sl 3 B vn ((l3 q).map (got N)))
 (h:WF n kZ N)(hL:mr n kZ)(hq:∀r∈l3 q,live N r)(Dg:n<=64):
  Rd zQ 209 #[ptr bw,vn] B (λr=>((∀s∈l3 q,N s=none)/\r=iv (-1))\/∃v,nq n kZ N (l3 q) v/\r=iv (v:Int)):=by
 have hlen:(l3 q).length=3:=rfl;refine aW λg=>tx (hn.c6 ?_);rw[xav,hlen];refine⟨λvs H=>∃(i:Nat) (w:Int),vs=[iv w,iv (i:Int)]/\i<=3/\H=B/\(((∀s∈(l3 q).take i,N s=none)/\w= -1)\/∃v:Nat,nq n kZ N ((l3 q).take i) v/\w=(v:Int)),λvs _=>3-dR vs 1,
  JE.mk ⟨0, -1,rfl,by omega,rfl,.inl ⟨by simp,rfl⟩⟩,?_⟩
 rintro w6 w7 H ⟨i,w,⟨⟩,hi,rfl,IW⟩ gs;refine ae.fN (b:=3) (Br.dec (λhlt=>?_) (λhlt=>?_))
 ·intro J hJ;have lZ:i<(l3 q).length:=hlt;obtain⟨r,hr⟩:∃r,(l3 q)[i]? =some r:=⟨_,xad lZ⟩;have qX:(l3 q).take (i+1)=(l3 q).take i++[r]:=by rw[xbX,hr];rfl
  have fin:∀(w':Int) (Z:Hp),((∀s∈(l3 q).take (i+1),N s=none)/\w'= -1)\/(∃v:Nat,nq n kZ N ((l3 q).take (i+1)) v/\w'=(v:Int))->J [iv w'] (Z++H):=λw' Z h'=>hJ _ _ λgs=>by
   exact ae.inc (aR.of .right ⟨i+1,w',rfl,by omega,rfl,h'⟩ (by simp only[dR];omega))
  have hrow:((l3 q).map (got N))[i]? =some (got N r):=by rw[xaB,hr];rfl
  refine ai.sl hn hrow λp hp=>?_;refine az.at hp (aP _ _).1 zD (λ_ h=>h) ?_;intro kJ _;refine St.whole (r:=got N r) (by exact .head _) rfl (aP _ _).1 (aP _ _).2 ?_;have hlr:=hq r (xaJ hr);cases hN:N r with
  |none=>
   have pI:r<2:=by rcases hlr with h2|⟨d,hd⟩;exact h2;rw[hN]at hd;cases hd
   have eg:got N r=[iv (-1),u32 r,u32 r]:=eE pI;rw[eg];refine Ld.f ?_;refine ae.geq (bL.mk false (λh=>by simp at h) (λ_=>rfl) λgs=>Br.no ?_);refine JE.mk (fin w [_] ?_);rcases IW with⟨h1,h2⟩|⟨v,h1,h2⟩
   ·refine .inl ⟨λs hs=>?_,h2⟩;rw[qX,xaw,xaH]at hs;rcases hs with hs|rfl
    ·exact h1 s hs
    exact hN
   refine .inr ⟨v,⟨h1.lt,?_,λs hs=>?_⟩,h2⟩
   ·obtain⟨s,hs,x⟩:=h1.ex;exact⟨s,by rw[qX];exact xac _ hs,x⟩
   rw[qX,xaw,xaH]at hs;rcases hs with hs|rfl
   ·exact h1.le s hs
   rw[aU hN];exact xbR (hL.lt v h1.lt)
  |some d=>
   have h2:=h.two hN;have AF:=h.var hN;have eg:got N r=dQ d:=dL hN h2;rw[eg];refine Ld.f ?_;refine ae.geq ?_;rw[xaL zO];have qm:(∀s∈(l3 q).take i,kZ d.v<=dep n kZ N s)->∃v:Nat,nq n kZ N ((l3 q).take (i+1)) v/\(d.v:Int)=(v:Int):=λhle=>by
    refine⟨d.v,⟨AF,⟨r,by rw[qX];simp,d,hN,rfl⟩,λs hs=>?_⟩,rfl⟩;rw[qX,xaw,xaH]at hs;rcases hs with hs|rfl
    ·exact hle s hs
    rw[an hN];exact xak _
   rcases IW with⟨h1,rfl⟩|⟨v,h1,rfl⟩
   ·refine bL.and true (λ_=>?_) rfl λgs=>Br.yes ?_
    ·exact ae.lss (bL.mk true (λh=>by simp at h) (λ_=>rfl) λgs=>⟨rfl,rfl⟩)
    refine Ld.f ?_;refine JE.mk (fin (d.v:Int) [_] (.inr (qm λs hs=>?_)));rw[aU (h1 s hs)];exact xbR (hL.lt _ AF)
   have g1:(iw lvl)[d.v]? =some ((kZ d.v:Nat):Int):=by rw[<-hlv d.v AF];exact bV zO
   have g2:(iw lvl)[v]? =some ((kZ v:Nat):Int):=by rw[<-hlv v h1.lt];exact bV (by have:=h1.lt;omega)
   refine bL.and (decide (kZ d.v<kZ v)) (λ_=>?_) rfl λgs=>?_
   ·refine ae.lss ?_;rw[xay zO];refine bL.or (decide (kZ d.v<kZ v)) (λ_=>?_) rfl λgs=>⟨rfl,by simp⟩;refine Ld.v (.tail _ hw) ?_;refine Ld.f ?_;refine hl.ld g1 (λ_ h=>.tail _ h) (Ld.v (.tail _ hw) ?_);exact hl.ld g2 (λ_ h=>.tail _ h) (ae.fN ⟨rfl,rfl⟩)
   rw[xcr];refine Br.dec (λFf=>?_) (λFf=>?_)
   ·refine Ld.f ?_;refine JE.mk (fin (d.v:Int) [_] (.inr (qm λs hs=>?_)));have:=h1.le s hs;omega
   refine JE.mk (fin (v:Int) [_] (.inr ⟨v,⟨h1.lt,?_,λs hs=>?_⟩,rfl⟩))
   ·obtain⟨s,hs,x⟩:=h1.ex;exact⟨s,by rw[qX];exact xac _ hs,x⟩
   rw[qX,xaw,xaH]at hs;rcases hs with hs|rfl
   ·exact h1.le s hs
   rw[an hN];omega
 obtain rfl:i=3:=by omega
 rw[xcL (by rw[hlen];exact xak _)]at IW;refine bS.mk (.refl _) ?_;rcases IW with⟨h1,rfl⟩|⟨v,h1,rfl⟩
 ·exact .inl ⟨h1,rfl⟩
 exact .inr ⟨v,h1,rfl⟩
theorem wP(h:cc kp K S ord af tr C){v lo hi:Nat}(hv:v<K.n)(hlo:live K.N lo)(hhi:live K.N hi)(hlt:lv af v<dep K.n (lv af) K.N lo/\lv af v<dep K.n (lv af) K.N hi):
  Rd zQ 255 #[ptr kp,iv (v:Int),u32 lo,u32 hi] C (· =if lo=hi then .tuple #[u32 lo,.bool true]else .tuple #[u32 ((K.T ⟨v,lo,hi⟩).getD 0),.bool (K.T ⟨v,lo,hi⟩).isSome]):=by
 have Kr:=h.cH hlo;have Kx:=h.cH hhi;have Ef:=bF.2 hlo;have vi:=bF.2 hhi;have KD:iL K af (v:Int) lo hi=0:=by
  unfold iL;rw[xab zO,xab (by rw[Ef,vi];simp),xab];rintro⟨hne,hmin⟩;simp only[xbx,lv]at hmin hlt;omega
 refine aW λg=>s8 λJ hJ=>?_;refine ae.bB (Split.go rfl (aa.eq (vE h.rep (v:Int) zO zO (λr d hd=>⟨h.ok.mid.var hd,(h.ok.mid.two hd).1⟩)) ?_));rw[KD];refine ae.j7 (bX.mk (JE.mk (hJ _ _ λgs=>?_)));rw[xay zI];refine Br.no (aa.rq (uP h.rep (lo:=lo) (hi:=hi) hv) ?_);rintro w hw;subst hw;by_cases he:lo=hi
 ·rw[xae he];exact Ext.mk rfl (Ext.mk rfl (bS.mk (.refl _) rfl))
 rw[xab he];exact Ext.mk rfl (Ext.mk rfl (bS.mk (.refl _) rfl))
theorem su(h:cc kp K S ord af tr C){v lo hi r:Nat}(hv:v<K.n)(hlo:live K.N lo)(hhi:live K.N hi)(hlt:lv af v<dep K.n (lv af) K.N lo/\lv af v<dep K.n (lv af) K.N hi)(hr:live K.N r)(h2:2<=r)(hS:S r=ite S ⟨v,lo,hi⟩):
  Rd zQ 255 #[ptr kp,iv (v:Int),u32 lo,u32 hi] C (· =.tuple #[u32 r,.bool true]):=by
 refine(wP h hv hlo hhi hlt).mono ?_;rintro w H ⟨e,rfl⟩;refine⟨e,?_⟩;by_cases he:lo=hi
 ·subst he;rw[xae rfl,h.ok.wf.same h.ok.lv h.ok.mid.int hr hlo λx=>by rw[hS];unfold au.ite;split<;>rfl]
 rw[xab he];obtain⟨d,hd⟩:∃d,K.N r=some d:=by
  rcases hr with h3|h3
  ·omega
  exact h3
 have Ob:d=⟨v,lo,hi⟩:=h.ok.CK (d:=⟨v,lo,hi⟩) hlo hhi he hv hlt hd hS;subst Ob;rw[(h.ok.mid.nJ _ r).2 ⟨hd,λe=>e⟩];rfl
theorem sU(r v:Nat)(B:Hp):Rd zQ 210 #[ptr bw,iv (v:Int),u32 r,u32 r] B (· =.tuple #[u32 r,iv 0]):=by
 exact aW λg=>nA (ae.qd (Br.T (bS.mk (.refl _) rfl)))
theorem BN{CM X:Hp}{made:zL}(h:cc kp K S ord af tr C){v lo hi:Nat}(hv:v<K.n)(hlo:live K.N lo)(hhi:live K.N hi)(hne:lo≠hi)(hlt:lv af v<dep K.n (lv af) K.N lo/\lv af v<dep K.n (lv af) K.N hi)
 (hM:aO 82 .u32 vm (iw made) CM)(hlen:made.length<=1099511627776):
  Fc zQ 210 #[ptr bw,iv (v:Int),u32 lo,u32 hi] (dc bw kp vl vm::(X++(CM++C))) (λw H=>
   (∃r K' S' C' Ey F3,w=.tuple #[u32 r,iv 0]/\H=dc bw kp vl Ey::(X++(F3++C'))/\cc kp K' S' ord af [] C'/\lF K S K' S' (ite S ⟨v,lo,hi⟩) r/\aO 82 .u32 Ey (iw (made++[r])) F3)\/
   (w=.tuple #[u32 0,iv 9]/\H=dc bw kp vl vm::(X++(CM++C))/\K.cap<=K.used/\K.T ⟨v,lo,hi⟩=none)\/
   (∃r,w=.tuple #[u32 r,iv 0]/\H=dc bw kp vl vm::(X++(CM++C))/\live K.N r/\2<=r/\K.hold r=65535/\S r=ite S ⟨v,lo,hi⟩)):=by
 refine aW λg=>nA (ae.bN (Br.Ip hne (Ld.n ?_)));refine aa.fq (u3 h hv hlo hhi (.inr hlt)) ?_;rintro w C' (⟨r,K',S',rfl,gU,mk⟩|⟨r,rfl,rfl,hlr,Ib,hfull,Gn⟩|⟨rfl,rfl,hcap,_,hT⟩)
 ·refine Ext.two λJ hJ=>(ae.qd (Br.T (Ld.n ?_)));refine ak.int (e:=82) zK zK zK λbx=>?_;refine hM.n8 (x:=(r:Int)) (.cons (.cons (.app .left))) (by exact .head _) (by rw[aQ];omega) (by rw[aQ];omega) λEy F3 Jl=>?_;have h1:=Jl.one;refine Nil.ptr (ag.mk (St.one (by exact .tail (.head _)) h1 zI rfl ?_));refine aZ.mk .tail (.inl ⟨r,K',S',C',Ey,F3,rfl,rfl,gU,mk,?_⟩);rw[dB];exact Jl
 ·refine Ext.two λJ hJ=>(ae.qd (Br.F (ae.qd (Br.T (Ld.n ?_)))));exact aa.eq (su h hv hlo hhi hlt hlr Ib Gn) (Ext.mk rfl (Ext.mk rfl (Br.yes (aZ.here (.inr (.inr ⟨r,rfl,rfl,hlr,Ib,hfull,Gn⟩))))))
 exact Ext.two λJ hJ=>(ae.qd (Br.F (ae.qd (Br.F (JE.mk (hJ _ λgs=>aZ.here (.inr (.inl ⟨rfl,rfl,hcap,hT⟩))))))))
end
end Go.Proofs
