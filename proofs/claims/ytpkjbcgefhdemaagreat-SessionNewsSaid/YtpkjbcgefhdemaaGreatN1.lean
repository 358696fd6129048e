import Derived.WalkKit
import Derived.Still
import Derived.KernelRfl
import Derived.Deep.Quiet
import Derived.OrdersHeld
import Derived.ProofKit
import Derived.OpenShut
import Derived.Below
import Derived.ChangeKeysEq
import Derived.Laws.StructEq
set_option linter.unusedVariables false
set_option linter.unusedSimpArgs false
set_option linter.unusedSectionVars false
theorem zM{α:Type _}{x:α}{l:List α}(h:x∈l:=by repeat (first|assumption|exact List.Mem.head _|apply List.Mem.tail|apply List.mem_append_right)):x∈l:=h
theorem zS{α:Type _}{A B:List α}(h:∀x∈A,x∈B:=by intro _ h;repeat (first|exact h|apply List.mem_cons_of_mem|apply List.mem_append_right)):∀x∈A,x∈B:=h
namespace Go.Sx
open Go
abbrev Hp:=List (Nat×Obj)
structure Gh where
 w:World
 fr:Hp
def Gh.add(g:Gh)(F:Hp):Gh:=⟨g.w,F++g.fr⟩
structure Own(g:Gh)(H:Hp)(w:World):Prop where
 os:w.os=g.w.os
 out:w.output=g.w.output
 tape:w.tape=g.w.tape
 nd:((H++g.fr).map Prod.fst).Nodup
 m4:∀x,x∈H++g.fr→w.heap[x.1]? =some x.2
theorem Own.has{g:Gh}{H:Hp}{w:World}(h:Own g H w)(x:Nat×Obj)(hx:x∈H):w.heap[x.1]? =some x.2:=h.m4 x (List.mem_append_left _ hx)
theorem Own.perm{g:Gh}{H H':Hp}{w:World}(h:Own g H w)(p:H.Perm H'):Own g H' w:=
 ⟨h.os,h.out,h.tape,((p.append_right _).map _).nodup_iff.1 h.nd,fun x hx=>h.m4 x ((p.append_right _).mem_iff.2 hx)⟩
theorem Own.right{g:Gh}{A B:Hp}{w:World}(h:Own g (A++B) w):Own g B w:=
 ⟨h.os,h.out,h.tape,by have:=h.nd;rw[List.append_assoc,List.map_append]at this;exact(List.nodup_append.1 this).2.1,fun x hx=>h.m4 x (by rw[List.append_assoc];exact List.mem_append_right _ hx)⟩
theorem Own.left{g:Gh}{A B:Hp}{w:World}(h:Own g (A++B) w):Own g A w:=Own.right (A:=B) (h.perm List.perm_append_comm)
theorem Own.tail{g:Gh}{x:Nat×Obj}{B:Hp}{w:World}(h:Own g (x::B) w):Own g B w:=Own.right (A:=[x]) h
theorem Own.cI{g:Gh}{A F:Hp}{w:World}:Own g (A++F) w↔Own (g.add F) A w:=by
 constructor
 ·intro h;exact⟨h.os,h.out,h.tape,by have:=h.nd;rw[List.append_assoc]at this;exact this,fun x hx=>h.m4 x (by rw[List.append_assoc];exact hx)⟩
 ·intro h;exact⟨h.os,h.out,h.tape,by have:=h.nd;rw[List.append_assoc];exact this,fun x hx=>h.m4 x (by rw[List.append_assoc]at hx;exact hx)⟩
def aS(H H':Hp):Prop:=∀g w,Own g H w→Own g H' w
theorem aS.refl(H:Hp):aS H H:=fun _ _ h=>h
theorem aS.trans{A B C:Hp}(h:aS A B)(h':aS B C):aS A C:=fun g w x=>h' g w (h g w x)
theorem aS.perm{A B:Hp}(p:A.Perm B):aS A B:=fun _ _ h=>h.perm p
theorem aS.right{A B:Hp}:aS (A++B) B:=fun _ _ h=>h.right
theorem aS.left{A B:Hp}:aS (A++B) A:=fun _ _ h=>h.left
theorem aS.tail{x:Nat×Obj}{B:Hp}:aS (x::B) B:=fun _ _ h=>h.tail
theorem aS.frame{A B:Hp}(h:aS A B)(F:Hp):aS (A++F) (B++F):=fun _ _ o=>Own.cI.2 (h _ _ (Own.cI.1 o))
theorem aS.cZ{A B:Hp}(h:aS A B)(F:Hp):aS (F++A) (F++B):=(aS.perm List.perm_append_comm).trans ((h.frame F).trans (.perm List.perm_append_comm))
inductive cv(b:Nat)(o o':Obj):Hp→Hp→Prop
 |head (R:Hp):cv b o o' ((b,o)::R) ((b,o')::R)
 |tail {x:Nat×Obj} {R R':Hp} (h:cv b o o' R R'):cv b o o' (x::R) (x::R')
theorem cv.mem{b:Nat}{o o':Obj}{H H':Hp}(h:cv b o o' H H'):(b,o)∈H:=by
 induction h with
 |head R=>simp
 |tail _ ih=>simp[ih]
theorem cv.keys{b:Nat}{o o':Obj}{H H':Hp}(h:cv b o o' H H'):H'.map Prod.fst=H.map Prod.fst:=by
 induction h with
 |head R=>simp
 |tail _ ih=>simp[ih]
theorem cv.s5{b:Nat}{o o':Obj}{H H':Hp}(h:cv b o o' H H')(nd:(H.map Prod.fst).Nodup):∀x∈H',x=(b,o')∨(x∈H∧x.1≠b):=by
 induction h with
 |head R=>
  intro x hx
  rcases List.mem_cons.1 hx with rfl|hx
  ·exact .inl rfl
  ·refine .inr ⟨by simp[hx],fun e=>?_⟩
   simp only[List.map_cons,List.nodup_cons]at nd
   exact nd.1 (e▸List.mem_map_of_mem hx)
 | @tail y R R' h ih=>
  intro x hx
  simp only[List.map_cons,List.nodup_cons]at nd
  rcases List.mem_cons.1 hx with rfl|hx
  ·refine .inr ⟨by simp,fun e=>?_⟩
   exact nd.1 (e▸List.mem_map_of_mem (f:=Prod.fst) h.mem)
  ·rcases ih nd.2 x hx with h1|h1
   ·exact .inl h1
   ·exact .inr ⟨by simp[h1.1],h1.2⟩
theorem cv.append{b:Nat}{o o':Obj}{C C':Hp}(h:cv b o o' C C')(B:Hp):cv b o o' (C++B) (C'++B):=by
 induction h with
 |head R=>exact .head _
 |tail _ ih=>exact .tail ih
theorem Own.aP{g:Gh}{H H':Hp}{w w':World}{b:Nat}{o o':Obj}(h:Own g H w)(u:cv b o o' H H')
 (hos:w'.os=w.os)(hout:w'.output=w.output)(vP:w'.tape=w.tape)
 (hb:w'.heap[b]? =some o')(hr:∀c,c≠b→w'.heap[c]? =w.heap[c]?):Own g H' w':=
 ⟨hos.trans h.os,hout.trans h.out,vP.trans h.tape,by rw[(u.append g.fr).keys];exact h.nd,fun x hx=>by
  rcases(u.append g.fr).s5 h.nd x hx with rfl|⟨h1,h2⟩
  ·exact hb
  ·rw[hr _ h2];exact h.m4 x h1⟩
theorem Own.same{g:Gh}{H:Hp}{w w':World}(h:Own g H w)(hos:w'.os=w.os)(hout:w'.output=w.output)(vP:w'.tape=w.tape)
 (hr:∀(c:Nat) (o:Obj),w.heap[c]? =some o→w'.heap[c]? =some o):Own g H w':=
 ⟨hos.trans h.os,hout.trans h.out,vP.trans h.tape,h.nd,fun x hx=>hr _ _ (h.m4 x hx)⟩
theorem Own.drew{g:Gh}{H:Hp}{w:World}(h:Own g H w):Own g H w.drew:=h.same rfl rfl rfl fun _ _ h=>h
theorem Own.oz{g:Gh}{H:Hp}{w:World}(h:Own g H w):Own g H {w with drawn:=w.drawn+1}:=h.drew
theorem Own.D7{g:Gh}{H:Hp}{w:World}(h:Own g H w){x:Nat×Obj}(hx:x∈H++g.fr):x.1<w.heap.size:=by
 have:=h.m4 x hx
 exact(Array.getElem?_eq_some_iff.1 this).1
theorem Own.lt{g:Gh}{H:Hp}{w:World}(h:Own g H w){x:Nat×Obj}(hx:x∈H):x.1<w.heap.size:=h.D7 (List.mem_append_left _ hx)
theorem Own.wy{g:Gh}{H:Hp}{w:World}(h:Own g H w):w.heap.size∉(H++g.fr).map Prod.fst:=by
 intro hm
 obtain⟨x,hx,e⟩:=List.mem_map.1 hm
 have:=h.D7 hx
 omega
theorem Own.fresh{g:Gh}{H:Hp}{w:World}(h:Own g H w):w.heap.size∉H.map Prod.fst:=fun hm=>h.wy (by rw[List.map_append];exact List.mem_append_left _ hm)
theorem Own.alloc{g:Gh}{H:Hp}{w:World}(h:Own g H w)(o:Obj):Own g ((w.heap.size,o)::H) (w.alloc o):=by
 refine⟨h.os,h.out,h.tape,?_,?_⟩
 ·rw[List.cons_append,List.map_cons,List.nodup_cons];exact⟨h.wy,h.nd⟩
 ·intro x hx
  rw[List.cons_append]at hx
  rcases List.mem_cons.1 hx with rfl|hx
  ·show(w.heap.push o)[w.heap.size]? =some o
   rw[Array.getElem?_push,if_pos rfl]
  ·have:=h.m4 x hx
   have hl:=h.D7 hx
   show(w.heap.push o)[x.1]? =some x.2
   rw[Array.getElem?_push,if_neg (by omega)]
   exact this
theorem Own.cell{g:Gh}{H:Hp}{w:World}(h:Own g H w){b:Nat}{c:Array Value}{T:TypeId}{fz:Nat×Nat}(hm:(b,Obj.cells c T fz)∈H)(off:Nat):
  w.cell? ⟨b,off,none⟩=c[off]? :=by
 have:=h.has _ hm
 simp only[World.cell?]
 simp only at this
 rw[this]
 rfl
theorem Own.frozen{g:Gh}{H:Hp}{w:World}(h:Own g H w){b:Nat}{c:Array Value}{T:TypeId}(hm:(b,Obj.cells c T (0,0))∈H)(off:Nat)(sp:Option Nat):
  w.frozen? ⟨b,off,sp⟩=false:=by
 have:=h.has _ hm
 simp only at this
 simp[World.frozen?,this]
def eV(c:Array Value)(off:Nat):List Value→Array Value
 | []=>c
 |v::r=>eV (c.setIfInBounds off v) (off+1) r
theorem Own.setCell{g:Gh}{H:Hp}{w:World}(h:Own g H w){b:Nat}{c:Array Value}{T:TypeId}{fz:Nat×Nat}{H':Hp}(off:Nat)(v:Value)
 (u:cv b (.cells c T fz) (.cells (c.setIfInBounds off v) T fz) H H'):Own g H' (w.setCell ⟨b,off,none⟩ v):=by
 refine h.aP u rfl rfl rfl ?_ ?_
 ·have:=h.has _ u.mem
  simp only at this
  simp[World.setCell,Array.getElem?_modify,this]
 ·intro d hd
  simp only[World.setCell]
  rw[Array.getElem?_modify,if_neg (fun e=>hd (Eq.symm e))]
theorem cv.re{b:Nat}{o o':Obj}{H H':Hp}(u:cv b o o' H H')(o₁:Obj):∃H₁,cv b o o₁ H H₁∧cv b o₁ o' H₁ H':=by
 induction u with
 |head R=>exact⟨_,.head R,.head R⟩
 |tail _ ih=>obtain⟨H₁,u1,u2⟩:=ih;exact⟨_,.tail u1,.tail u2⟩
theorem cE{P:Program}{g:Gh}{b:Nat}{T:TypeId}(off:Nat):∀(l:List Value) (i:Nat) (c:Array Value) (H H':Hp) (w:World),Own g H w→
  cv b (.cells c T (0,0)) (.cells (eV c (off+i) l) T (0,0)) H H'→(∀v∈l,v.oneCell'=true)→off+i+l.length≤c.size→
  ∃w',(storeCells ⟨b,off,none⟩ l i).run P w=.ok () w'∧Own g H' w'
 | [],i,c,H,H',w,h,u,_,_=>by
  refine⟨w,rfl,?_⟩
  exact h.aP u rfl rfl rfl (h.has _ u.mem) fun _ _=>rfl
 |v::r,i,c,H,H',w,h,u,h1,hs=>by
  obtain⟨H₁,u1,u2⟩:=u.re (.cells (c.setIfInBounds (off+i) v) T (0,0))
  have ji:=h.setCell (off+i) v u1
  simp only[List.length_cons]at hs
  obtain⟨w',hr,ho⟩:=cE (P:=P) off r (i+1) (c.setIfInBounds (off+i) v) H₁ H' _ ji (by simpa[eV,Nat.add_assoc]using u2) (fun x hx=>h1 x (by simp[hx])) (by simp;omega)
  refine⟨w',?_,ho⟩
  have hc:w.cell? ⟨b,off+i,none⟩=some c[off+i]:=by
   rw[h.cell u.mem,Array.getElem?_eq_getElem]
  have hf:=h.frozen u.mem (off+i) none
  have ha:Addr.add ⟨b,off,none⟩ i=⟨b,off+i,none⟩:=Addr.add_lit _ _ _
  simp only[storeCells,Sem.run_bind,ha,run_store P w _ v .plain (h1 v (by simp)),hc,hf,Bool.false_eq_true,if_false,Result.andThen_ok,hr]
theorem ea{P:Program}{g:Gh}{H:Hp}{w:World}(h:Own g H w){b:Nat}{c:Array Value}{T:TypeId}{fz:Nat×Nat}(hm:(b,Obj.cells c T fz)∈H)
 (off n:Nat)(hs:off+n≤c.size):(loadCells ⟨b,off,none⟩ n).run P w=.ok (c.extract off (off+n)) w:=by
 have hl:((c.extract off (off+n)).toList).length=n:=by simp;omega
 have:=run_loadCells_list (P:=P) w ⟨b,off,none⟩ (c.extract off (off+n)).toList (fun j v hj=>by
  rw[Addr.add_lit,h.cell hm]
  have As:j<n:=by
   have:=(List.getElem?_eq_some_iff.1 hj).1
   omega
  rw[Array.getElem?_toList,Array.getElem?_extract]at hj
  rw[if_pos (by omega)]at hj
  exact hj)
 rw[hl]at this
 exact this
end Go.Sx
namespace Go.Sx
open Go
abbrev Fr:=Nat→Value
def aP(fr:Fr)(d:Option Nat)(v:Value):Fr:=
 match d with
 |none=>fr
 |some d=>fun s=>cond (Nat.beq s d) v (fr s)
def ev(fr:Fr):Operand→Value
 | .tmp t=>fr t
 | .const v=>v
 | .global g=>.pointer (some ⟨g,0,none⟩)
 | .func f=>.func (.func f) #[] #[]
def bS(n:Nat):Option Nat→Bool
 |none=>true
 |some d=>Nat.blt d n
structure aZ(ds:List Deferred)(n:Nat)(a:Act)(fr:Fr):Prop where
 defers:a.defers=ds
 size:a.tmps.size=n
 get:∀s,a.tmps.getD s undef=fr s
theorem aZ.eval{ds:List Deferred}{n:Nat}{a:Act}{fr:Fr}(h:aZ ds n a fr):a.eval=ev fr:=by
 funext x
 cases x<;>simp only[Act.eval,ev]
 exact h.get _
theorem aZ.put{ds:List Deferred}{n:Nat}{a:Act}{fr:Fr}(h:aZ ds n a fr){d:Option Nat}(hd:bS n d=true)(v:Value):aZ ds n (a.put d v) (aP fr d v):=by
 cases d with
 |none=>exact h
 |some d=>
  have hlt:d<n:=by simpa[bS,Nat.blt_eq]using hd
  refine⟨h.defers,by simp[Act.put,h.size],fun s=>?_⟩
  simp only[Act.put,aP]
  have hs:=h.size
  by_cases e:s=d
  ·subst e;simp[hs,hlt]
  ·have e':d≠s:=fun x=>e x.symm
   have hb:Nat.beq s d=false:=by
    cases hh:Nat.beq s d
    ·rfl
    ·exact absurd (Nat.eq_of_beq_eq_true hh) e
   rw[hb]
   simp only[cond_false]
   have:=h.get s
   simpa[Array.getD_eq_getD_getElem?,Array.getElem?_setIfInBounds_ne e']using this
def aV(P:Program)(g:Gh)(f:FuncId)(args:Array Value)(H:Hp)(R:Ending→Hp→Prop):Prop:=
 ∀w,Own g H w→Calls P f args w fun e w'=>∃H',Own g H' w'∧R e H'
theorem aV.mono{P:Program}{g:Gh}{f:FuncId}{args:Array Value}{H:Hp}{R R':Ending→Hp→Prop}(h:aV P g f args H R)(hr:∀e H',R e H'→R' e H'):
  aV P g f args H R':=fun w hw=>(h w hw).mono fun e w' ⟨H',o,r⟩=>⟨H',o,hr _ _ r⟩
theorem aV.pre{P:Program}{g:Gh}{f:FuncId}{args:Array Value}{H H':Hp}{R:Ending→Hp→Prop}(h:aV P g f args H' R)(he:aS H H'):
  aV P g f args H R:=fun w hw=>h w (he _ _ hw)
theorem aV.post{P:Program}{g:Gh}{f:FuncId}{args:Array Value}{H:Hp}{R R':Ending→Hp→Prop}(h:aV P g f args H R)
 (hr:∀e H',R e H'→∃gO,aS H' gO∧R' e gO):aV P g f args H R':=fun w hw=>(h w hw).mono fun e w' ⟨H',o,r⟩=>
 let ⟨gO,en,r'⟩:=hr _ _ r;⟨gO,en _ _ o,r'⟩
def C9(K:Value→Hp→Prop)(KP:List PanicEntry→Hp→Prop):Ending→Hp→Prop
 | .returned v,H=>K v H
 | .panicked ch,H=>KP ch H
 | .outgrown,_=>False
def iB(P:Program)(g:Gh)(K:Value→Hp→Prop)(KP:List PanicEntry→Hp→Prop):Result Next→Prop
 | .ok (.value v) w=>∃H,Own g H w∧K v H
 | .ok .skip w=>∃H,Own g H w∧K undef H
 | .ok (.enter f args) w=>Calls P f args w fun e w'=>∃H,Own g H w'∧C9 K KP e H
 | .halt (.panic v) w=>∃H,Own g H w∧KP [{v,recovered:=false}] H
 |_=>False
def gM(P:Program)(g:Gh)(o:Oper)(ρ:Operand→Value)(H:Hp)(K:Value→Hp→Prop)(KP:List PanicEntry→Hp→Prop):Prop:=
 ∀w,Own g H w→iB P g K KP ((execOp ρ o).run P w)
def dR(H:Hp)(o:Obj)(k:Nat→Hp→Prop):Prop:=∀b,b∉H.map Prod.fst→k b ((b,o)::H)
def ax(c a b:Value)(k:Value→Prop):Prop:=∃t,c=.bool t∧k (cond t a b)
def Ld(H:Hp)(p:Value)(k:Value→Prop):Prop:=
 ∃b off c T fz v,p=.pointer (some ⟨b,off,none⟩)∧(b,Obj.cells c T fz)∈H∧c[off]? =some v∧k v
def aB(n:Nat)(H:Hp)(p:Value)(k:Value→Prop):Prop:=
 ∃b off c T fz,p=.pointer (some ⟨b,off,none⟩)∧(b,Obj.cells c T fz)∈H∧off+n≤c.size∧k (.agg (c.extract off (off+n)))
def St(n:Nat)(H:Hp)(p x:Value)(k:Hp→Prop):Prop:=
 ∃b off c T H',p=.pointer (some ⟨b,off,none⟩)∧x.cells.size=n∧off+n≤c.size∧(∀v∈x.cells.toList,v.oneCell'=true)∧
  cv b (.cells c T (0,0)) (.cells (eV c off x.cells.toList) T (0,0)) H H'∧k H'
inductive BK|num|bool|ptr|slice|map|func|str|other
def nh:TypeDesc→BK
 | .bool=>.bool
 | .int _=>.num
 | .pointer _=>.ptr
 | .slice _=>.slice
 | .map _ _=>.map
 | .func _ _ _=>.func
 | .string=>.str
 |_=>.other
def gj(op:BinOp)(k:IntKind)(a b:Int):Option Value:=
 match op with
 | .add=>some (.int k (k.wrap (a+b)))
 | .sub=>some (.int k (k.wrap (a-b)))
 | .mul=>some (.int k (k.wrap (a*b)))
 | .quo=>if b=0 then none else some (.int k (k.wrap (a.tdiv b)))
 | .rem=>if b=0 then none else some (.int k (a.tmod b))
 | .and=>some (.int k (bits .and k a b))
 | .or=>some (.int k (bits .or k a b))
 | .xor=>some (.int k (bits .xor k a b))
 | .andNot=>some (.int k (bits .andNot k a b))
 | .eql=>some (.bool (a==b))
 | .neq=>some (.bool (a !=b))
 | .lss=>some (.bool (decide (a<b)))
 | .leq=>some (.bool (decide (a≤b)))
 | .gtr=>some (.bool (decide (b<a)))
 | .geq=>some (.bool (decide (b≤a)))
 |_=>none
def dW(kd:BK)(op:BinOp)(x y:Value):Option Value:=
 match x with
 | .int k a=>
  match y with
  | .int k' b=>
   match op with
   | .shl=>if b<0 then none else some (.int k (k.wrap (a*2^(min b.toNat k.bits))))
   | .shr=>if b<0 then none else some (.int k (a.fdiv (2^(min b.toNat k.bits))))
   |op=>if k=k' then gj op k a b else none
  |_=>none
 | .bool a=>
  match kd,op,y with
  | .bool,.eql,.bool b=>some (.bool (a==b))
  | .bool,.neq,.bool b=>some (.bool (!(a==b)))
  |_,_,_=>none
 | .string a=>
  match op,y with
  | .eql,.string b=>some (.bool (a.toList==b.toList))
  | .neq,.string b=>some (.bool (!(a.toList==b.toList)))
  |_,_=>none
 | .pointer a=>
  match kd,op,y with
  | .ptr,.eql,.pointer b=>if a.isNone∨b.isNone then some (.bool (a.isNone&&b.isNone))else none
  | .ptr,.neq,.pointer b=>if a.isNone∨b.isNone then some (.bool (!(a.isNone&&b.isNone)))else none
  |_,_,_=>none
 | .slice a n c=>
  match kd,op,y with
  | .slice,.eql,.slice b _ _=>if a.isNone∨b.isNone then some (.bool (a.isNone&&b.isNone))else none
  | .slice,.neq,.slice b _ _=>if a.isNone∨b.isNone then some (.bool (!(a.isNone&&b.isNone)))else none
  |_,_,_=>none
 | .map a=>
  match kd,op,y with
  | .map,.eql,.map b=>if a.isNone∨b.isNone then some (.bool (a.isNone&&b.isNone))else none
  | .map,.neq,.map b=>if a.isNone∨b.isNone then some (.bool (!(a.isNone&&b.isNone)))else none
  |_,_,_=>none
 |_=>none
def ae(kd:BK)(op:BinOp)(x y:Value)(k:Value→Prop):Prop:=∃v,dW kd op x y=some v∧k v
def FR(op:UnOp)(x:Value):Option Value:=
 match op,x with
 | .neg,.int k n=>some (.int k (k.wrap (0-n)))
 | .not,.bool b=>some (.bool !b)
 | .xor,.int k n=>some (.int k (bits .xor k (if k.signed then-1 else k.max) n))
 |_,_=>none
def Un(op:UnOp)(x:Value)(k:Value→Prop):Prop:=∃v,FR op x=some v∧k v
def bt(kd:IntKind)(x:Value)(k:Value→Prop):Prop:=∃j n,x=.int j n∧k (.int kd (kd.wrap n))
def aj(off:Nat)(x:Value)(k:Value→Prop):Prop:=∃b o,x=.pointer (some ⟨b,o,none⟩)∧k (.pointer (some ⟨b,o+off,none⟩))
def zP(off:Nat)(x:Value)(k:Value→Prop):Prop:=∃cs v,x=.agg cs∧cs[off]? =some v∧k v
def y2(off n:Nat)(x:Value)(k:Value→Prop):Prop:=∃cs,x=.agg cs∧k (.agg (cs.extract off (off+n)))
def ah(size:Nat)(x ix:Value)(k:Value→Prop):Prop:=
 ∃b o n c kd i,x=.slice (some ⟨b,o,none⟩) n c∧ix=.int kd i∧0≤i∧i<(n:Int)∧k (.pointer (some ⟨b,o+i.toNat*size,none⟩))
def dy(len size:Nat)(x ix:Value)(k:Value→Prop):Prop:=
 ∃b o kd i,x=.pointer (some ⟨b,o,none⟩)∧ix=.int kd i∧0≤i∧i<(len:Int)∧k (.pointer (some ⟨b,o+i.toNat*size,none⟩))
def yd:Option Value→Option Int
 |none=>some 0
 |some (.int _ n)=>some n
 |_=>none
def tn(len:Nat):Option Value→Option Int
 |none=>some len
 |some (.int _ n)=>some n
 |_=>none
def dm(size:Nat)(x:Value)(lo hi:Option Value)(k:Value→Prop):Prop:=
 ∃a n c l h,x=.slice a n c∧yd lo=some l∧tn n hi=some h∧0≤l∧l≤h∧h≤(c:Int)∧
  k (.slice (if c=l.toNat then a else a.map (·.add (l.toNat*size))) (h.toNat-l.toNat) (c-l.toNat))
def Ext(i:Nat)(x:Value)(k:Value→Prop):Prop:=∃vs v,x=.tuple vs∧vs[i]? =some v∧k v
def bM(x:Value)(k:Value→Prop):Prop:=∃a n c,x=.slice a n c∧k (.int .i64 n)
def tX(H:Hp)(x:Value)(k:Value→Prop):Prop:=
 ∃m,x=.map m∧((m=none∧k (.int .i64 0))∨∃b es clock,m=some b∧(b,Obj.map es clock)∈H∧k (.int .i64 es.size))
def Cells(H:Hp)(base:Option Addr)(n:Nat)(cs:Array Value):Prop:=
 match base with
 |none=>cs=#[]
 |some a=>(n=0∧cs=#[])∨(a.spot=none∧∃c T fz,(a.block,Obj.cells c T fz)∈H∧a.off+n≤c.size∧cs=c.extract a.off (a.off+n))
def App(P:Program)(elem size bytes:Nat)(zero:Value)(H:Hp)(s x:Value)(k:Value→Hp→Prop):Prop:=
 ∃base n cap xb m xc olds news,s=.slice base n cap∧x=.slice xb m xc∧Cells H base (n*size) olds∧Cells H xb (m*size) news∧
  news.size=m*size∧olds.size=n*size∧(∀v∈news.toList,v.oneCell'=true)∧
  (n+m≤cap→match base with
   |none=>k (.slice none (n+m) cap) H
   |some a=>∃c T H',a.spot=none∧a.off+n*size+m*size≤c.size∧cv a.block (.cells c T (0,0)) (.cells (eV c (a.off+n*size) news.toList) T (0,0)) H H'∧k (.slice (some a) (n+m) cap) H')∧
  (cap<n+m→(n+m)*bytes≤140737488355328∧(n+m:Nat)≤9223372036854775807∧∀cG,n+m≤cG→
   dR H (.cells (olds++news++Builtin.zeroCells zero.cells (cG-(n+m))) elem (0,0)) fun b H'=>∃gO,aS H' gO∧k (.slice (some ⟨b,0,none⟩) (n+m) cG) gO)
def da(elem size bytes:Nat)(zero:Value)(H:Hp)(l c:Value)(k:Value→Hp→Prop):Prop:=
 ∃kl kc ln cn,l=.int kl (ln:Nat)∧c=.int kc (cn:Nat)∧ln≤cn∧(cn:Int)≤9223372036854775807∧cn*bytes≤281474976710656∧
  dR H (.cells (madeCells zero.cells (cn*size)) elem (0,0)) fun b H'=>k (.slice (some ⟨b,0,none⟩) ln cn) H'
def kM(H:Hp)(k:Value→Hp→Prop):Prop:=dR H (.map #[] 0) fun b H'=>k (.map (some b)) H'
def sG(H:Hp)(m:Value)(es:Array MapEntry):Prop:=(m=.map none∧es=#[])∨∃b clock,m=.map (some b)∧(b,Obj.map es clock)∈H
def fU(kd:TypeDesc)(zero:Value)(ok:Bool)(H:Hp)(m key:Value)(k:Value→Prop):Prop:=
 ∃es r,sG H m es∧Instr.findNow kd key es.toList 0=some r∧
  k (match r with
   |some (_,v)=>cond ok (.tuple #[v,.bool true]) v
   |none=>cond ok (.tuple #[zero,.bool false]) zero)
def aN(kd:TypeDesc)(H:Hp)(m key val:Value)(k:Hp→Prop):Prop:=
 ∃b es clock r,m=.map (some b)∧Instr.findNow kd key es.toList 0=some r∧
  match r with
  |some (i,_)=>(∀e,es[i]? =some e→Instr.sameBits 10000 e.key key=true)∧i<es.size∧∃H',cv b (.map es clock) (.map (es.modify i fun e=>{e with key,val}) clock) H H'∧k H'
  |none=>∃H',cv b (.map es clock) (.map (es.push {key,val,born:=clock}) (clock+1)) H H'∧k H'
def qc(kd:TypeDesc)(H:Hp)(m key:Value)(k:Hp→Prop):Prop:=
 (m=.map none∧k H)∨∃b es clock r,m=.map (some b)∧Instr.findNow kd key es.toList 0=some r∧
  match r with
  |some (i,_)=>∃H',cv b (.map es clock) (.map (es.eraseIdxIfInBounds i) clock) H H'∧k H'
  |none=>(b,Obj.map es clock)∈H∧k H
def aG(P:Program)(f:FuncId):Bool:=
 match P.funcs[f]? with
 |none=>false
 |some fn=> !(fn.name== "runtime.NumGoroutine") &&fn.body.isSome
def aa(P:Program)(g:Gh)(f:FuncId)(args:Array Value)(H:Hp)(K:Value→Hp→Prop)(KP:List PanicEntry→Hp→Prop):Prop:=
 aV P g f args H (C9 K KP)
def bj(P:Program)(g:Gh)(fv:Value)(args:Array Value)(H:Hp)(K:Value→Hp→Prop)(KP:List PanicEntry→Hp→Prop):Prop:=
 ∃f first captured,fv=.func (.func f) first captured∧aG P f=true∧aa P g f (first++args++captured) H K KP
def sK(P:Program)(kt:TypeId)(x y:Value)(b:Bool):Prop:=∀w,(Op.equal kt x y).run P w=.ok b w
def gP(P:Program)(kt:TypeId)(x:Value):Prop:=∀e w,(Instr.checkKey e 10000 kt x).run P w=.ok () w
def fA(P:Program)(kt:TypeId)(key:Value):List MapEntry→Nat→Option (Nat×Value)→Prop
 | [],_,r=>r=none
 |e::es,i,r=>∃b,sK P kt key e.key b∧(b=true→r=some (i,e.val))∧(b=false→fA P kt key es (i+1) r)
def fy(P:Program)(kt:TypeId)(zero:Value)(ok:Bool)(H:Hp)(m key:Value)(k:Value→Prop):Prop:=
 ∃es r,sG H m es∧gP P kt key∧fA P kt key es.toList 0 r∧
  k (match r with
   |some (_,v)=>cond ok (.tuple #[v,.bool true]) v
   |none=>cond ok (.tuple #[zero,.bool false]) zero)
def fk(P:Program)(kt:TypeId)(H:Hp)(m key val:Value)(k:Hp→Prop):Prop:=
 ∃b es clock r,m=.map (some b)∧gP P kt key∧fA P kt key es.toList 0 r∧
  match r with
  |some (i,_)=>(∀e,es[i]? =some e→Instr.sameBits 10000 e.key key=true)∧i<es.size∧∃H',cv b (.map es clock) (.map (es.modify i fun e=>{e with key,val}) clock) H H'∧k H'
  |none=>∃H',cv b (.map es clock) (.map (es.push {key,val,born:=clock}) (clock+1)) H H'∧k H'
def iz(P:Program)(kt:TypeId)(H:Hp)(m key:Value)(k:Hp→Prop):Prop:=
 gP P kt key∧((m=.map none∧k H)∨∃b es clock r,m=.map (some b)∧fA P kt key es.toList 0 r∧
  match r with
  |some (i,_)=>∃H',cv b (.map es clock) (.map (es.eraseIdxIfInBounds i) clock) H H'∧k H'
  |none=>(b,Obj.map es clock)∈H∧k H)
def DM(H:Hp)(x:Value)(k:Value→Hp→Prop):Prop:=
 (x=.map none∧dR H (.mapIter none 0 #[] 0) fun b H'=>k (.pointer (some ⟨b,0,none⟩)) H')∨
 ∃m es clock,x=.map (some m)∧(m,Obj.map es clock)∈H∧dR H (.mapIter (some m) clock #[] clock) fun b H'=>k (.pointer (some ⟨b,0,none⟩)) H'
def C4(H:Hp)(it:Value)(k:Value→Hp→Prop):Prop:=
 ∃b mo since seen last,it=.pointer (some ⟨b,0,none⟩)∧(b,Obj.mapIter mo since seen last)∈H∧
  match mo with
  |none=>k (.tuple #[.bool false]) H
  |some m=>∃es clock,(m,Obj.map es clock)∈H∧(∀e∈es.toList,e.born<since∧e.born<last)∧
   (∀e∈es.toList,e.born∉seen→∃H',cv b (.mapIter (some m) since seen last) (.mapIter (some m) since (seen.push e.born) clock) H H'∧k (.tuple #[.bool true,e.key,e.val]) H')∧
   ((∀e∈es.toList,e.born∈seen)→k (.tuple #[.bool false]) H)
def y3(H:Hp)(it:Value)(k:Value→Prop):Prop:=
 ∃b m since seen stamp clock es e,it=.pointer (some ⟨b,0,none⟩)∧(b,Obj.mapIter (some m) since seen clock)∈H∧seen.back?=some stamp∧(m,Obj.map es clock)∈H∧es.find? (·.born==stamp)=some e∧k (.tuple #[e.key,e.val])
def FC(x y:Value)(k:Value→Prop):Prop:=∃kd a b,x=.int kd a∧y=.int kd b∧k (.int kd (if b>a then b else a))
def C6(x y:Value)(k:Value→Prop):Prop:=∃kd a b,x=.int kd a∧y=.int kd b∧k (.int kd (if b<a then b else a))
def iU(H:Hp)(x:Value)(k:Value→Prop):Prop:=
 ∃base n c,∃bs:List UInt8,x=.slice base n c∧Cells H base n ((bs.map fun b=>Value.int .u8 b.toNat).toArray)∧bs.length=n∧k (.string ⟨bs.toArray⟩)
def zN(x i:Value)(k:Value→Prop):Prop:=∃s kd j b,x=.string s∧i=.int kd j∧0≤j∧s[j.toNat]? =some b∧k (.int .u8 b.toNat)
def AT(x:Value)(k:Value→Prop):Prop:=∃s,x=.string s∧k (.int .i64 s.size)
def plainKey:TypeDesc→Bool
 | .int _| .string| .bool=>true
 |_=>false
def bA:TypeDesc→Bool
 | .struct _| .array _ _=>true
 |_=>false
end Go.Sx
namespace Go.Sx
open Go
section
variable {P:Program} {g:Gh} {H:Hp} {K:Value→Hp→Prop} {KP:List PanicEntry→Hp→Prop}
theorem cy{t:TypeId}{i:TypeInfo}{z:Value}(hi:P.info? t=some i)(hz:i.zero=some z)(w:World):(zeroValue t).run P w=.ok z w:=by
 simp[zeroValue,typeInfo,hi,hz]
theorem fX{t:TypeId}{d:TypeDesc}(hd:P.underlying t=some d)(w:World):(isAgg t).run P w=.ok (bA d) w:=by
 simp only[isAgg,Sem.run_bind,run_underlying hd,Result.andThen_ok]
 cases d<;>rfl
theorem run_sizeOf{t:TypeId}{i:TypeInfo}(hi:P.info? t=some i)(w:World):(sizeOf t).run P w=.ok i.size w:=by
 simp[sizeOf,typeInfo,hi]
theorem Ld.run{p:Value}{k:Value→Prop}(h:Ld H p k){w:World}(hw:Own g H w){t:TypeId}{d:TypeDesc}(hd:P.underlying t=some d)(ha:bA d=false):
  ∃v,(Instr.loadAt t p).run P w=.ok v w∧k v:=by
 obtain⟨b,off,c,T,fz,v,rfl,hm,hc,hk⟩:=h
 refine⟨v,?_,hk⟩
 have:=hw.cell hm off
 rw[hc]at this
 simp only[Instr.loadAt,Instr.sureAddr,loadVar,Sem.run_bind,Sem.run_pure,Result.andThen_ok,fX hd,ha,Sem.run_ite,Bool.false_eq_true,if_false,run_load,this]
theorem aB.run{n:Nat}{p:Value}{k:Value→Prop}(h:aB n H p k){w:World}(hw:Own g H w){t:TypeId}{d:TypeDesc}(hd:P.underlying t=some d)(ha:bA d=true)
 {i:TypeInfo}(hi:P.info? t=some i)(hn:i.size=n):
  ∃v,(Instr.loadAt t p).run P w=.ok v w∧k v:=by
 obtain⟨b,off,c,T,fz,rfl,hm,hs,hk⟩:=h
 refine⟨_,?_,hk⟩
 simp only[Instr.loadAt,Instr.sureAddr,loadVar,Sem.run_bind,Sem.run_pure,Result.andThen_ok,fX hd,ha,Sem.run_ite,if_true,run_sizeOf hi,hn,ea hw hm off n hs]
theorem St.run{n:Nat}{p x:Value}{k:Hp→Prop}(h:St n H p x k){w:World}(hw:Own g H w){t:TypeId}{i:TypeInfo}(hi:P.info? t=some i)(hn:i.size=n):
  ∃w' H',(Instr.storeAt t p x).run P w=.ok () w'∧Own g H' w'∧k H':=by
 obtain⟨b,off,c,T,H',rfl,hx,hs,hv,hu,hk⟩:=h
 obtain⟨w',hr,ho⟩:=cE (P:=P) off x.cells.toList 0 c H H' w hw (by simpa using hu) hv (by simp;omega)
 refine⟨w',H',?_,ho,hk⟩
 simp only[Instr.storeAt,Instr.sureAddr,storeVar,Sem.run_bind,Sem.run_pure,Result.andThen_ok,run_sizeOf hi,hn,hx,ne_eq,not_true,if_false,hr]
theorem vJ{op:BinOp}{k:IntKind}{a b:Int}{v:Value}{t:TypeId}(h:gj op k a b=some v)(w:World)(hs:op≠.shl∧op≠.shr):
  (binOp op t (.int k a) (.int k b)).run P w=.ok v w:=by
 cases op<;>simp[gj]at h hs<;>try subst h
 case quo=> 
  obtain⟨h0,rfl⟩:=h
  simp[binOp,Op.intDiv,h0]
 case rem=>
  obtain⟨h0,rfl⟩:=h
  simp[binOp,Op.intDiv,h0]
 all_goals first
  |simp[binOp,Op.intArith];done
  |simp[binOp,Op.intCmp];done
  |(simp only[binOp_and,binOp_or,binOp_xor,binOp_andNot,intBits_and,intBits_or,intBits_xor,intBits_andNot];rfl)
theorem dA{t:TypeId}{x y:Value}{r:Result Bool}{w:World}(h:∀d,(Op.equalIn (d+1) t x y).run P w=r):(Op.equal t x y).run P w=r:=h 9999
theorem run_eql_bool{t:TypeId}(hd:P.underlying t=some .bool)(a b:Bool)(w:World):(Op.equal t (.bool a) (.bool b)).run P w=.ok (a==b) w:=
 dA fun d=>by simp[Op.equalIn,run_underlying hd]
theorem nH{t e:TypeId}(hd:P.underlying t=some (.pointer e))(a b:Option Addr)(hab:a.isNone∨b.isNone)(w:World):(Op.equal t (.pointer a) (.pointer b)).run P w=.ok (a.isNone&&b.isNone) w:=
 dA fun d=>by cases a<;>cases b<;>simp at hab<;>simp[Op.equalIn,run_underlying hd]
theorem kY{t e:TypeId}(hd:P.underlying t=some (.slice e))(a b:Option Addr)(n c n' c':Nat)(hab:a.isNone∨b.isNone)(w:World):(Op.equal t (.slice a n c) (.slice b n' c')).run P w=.ok (a.isNone&&b.isNone) w:=
 dA fun d=>by cases a<;>cases b<;>simp at hab<;>simp[Op.equalIn,run_underlying hd]
theorem nJ{t e f:TypeId}(hd:P.underlying t=some (.map e f))(a b:Option Nat)(hab:a.isNone∨b.isNone)(w:World):(Op.equal t (.map a) (.map b)).run P w=.ok (a.isNone&&b.isNone) w:=
 dA fun d=>by cases a<;>cases b<;>simp at hab<;>simp[Op.equalIn,run_underlying hd]
theorem wP{kd:BK}{op:BinOp}{x y v:Value}{t:TypeId}{d:TypeDesc}(hd:P.underlying t=some d)(hk:nh d=kd)(h:dW kd op x y=some v)(w:World):
  (binOp op t x y).run P w=.ok v w:=by
 cases x<;>simp only[dW]at h<;>try (simp at h;done)
 case int k a=>
  cases y<;>simp only at h<;>try (simp at h;done)
  rename_i k' b
  by_cases hs:op=.shl
  ·subst hs
   simp only at h
   split at h
   ·simp at h
   ·simp only[Option.some.injEq]at h;subst h;rename_i hb;simp[binOp,Op.shift,hb]
  by_cases hs':op=.shr
  ·subst hs'
   simp only at h
   split at h
   ·simp at h
   ·simp only[Option.some.injEq]at h;subst h;rename_i hb;simp[binOp,Op.shift,hb]
  have h2:(if k=k' then gj op k a b else none)=some v:=by
   cases op<;>first|exact h|exact absurd rfl hs|exact absurd rfl hs'
  split at h2
  ·rename_i e;subst e;exact vJ h2 w ⟨hs,hs'⟩
  ·simp at h2
 case bool a=>
  split at h<;>simp only[Option.some.injEq,reduceCtorEq]at h
  all_goals
   subst h
   have:d=.bool:=by cases d<;>simp_all[nh]
   subst this
   simp[binOp,run_eql_bool hd]
 case string a=>
  split at h<;>simp only[Option.some.injEq,reduceCtorEq]at h
  all_goals
   subst h
   first|rfl|(simp only[binOp,Op.stringOp];rfl)
 case pointer a=>
  split at h<;>try (simp at h;done)
  all_goals
   have:∃e,d=.pointer e:=by cases d<;>simp_all[nh]
   obtain⟨e,rfl⟩:=this
   split at h<;>simp only[Option.some.injEq,reduceCtorEq]at h
   subst h
   rename_i bb hab
   simp[binOp,nH hd _ _ hab]
 case slice a n c=>
  split at h<;>try (simp at h;done)
  all_goals
   have:∃e,d=.slice e:=by cases d<;>simp_all[nh]
   obtain⟨e,rfl⟩:=this
   split at h<;>simp only[Option.some.injEq,reduceCtorEq]at h
   subst h
   rename_i bb _ _ hab
   simp[binOp,kY hd _ _ _ _ _ _ hab]
 case map a=>
  split at h<;>try (simp at h;done)
  all_goals
   have:∃e f,d=.map e f:=by cases d<;>simp_all[nh]
   obtain⟨e,f,rfl⟩:=this
   split at h<;>simp only[Option.some.injEq,reduceCtorEq]at h
   subst h
   rename_i bb hab
   simp[binOp,nJ hd _ _ hab]
theorem pW{kd:BK}{op:BinOp}{x y v:Value}{t:TypeId}{ox oy:Operand}(h:dW kd op x y=some v):eqGuard op t ox oy x y=pure ():=by
 cases x<;>simp[dW]at h<;>cases op<;>rfl
theorem ae.run{kd:BK}{op:BinOp}{x y:Value}{k:Value→Prop}(h:ae kd op x y k)(w:World){t:TypeId}{d:TypeDesc}{ox oy:Operand}(hd:P.underlying t=some d)(hk:nh d=kd):
  ∃v,(do eqGuard op t ox oy x y;binOp op t x y:Sem Value).run P w=.ok v w∧k v:=by
 obtain⟨v,hv,hkv⟩:=h
 refine⟨v,?_,hkv⟩
 rw[Sem.run_bind,pW hv]
 simp only[Sem.run_pure,Result.andThen_ok]
 exact wP hd hk hv w
theorem Un.run{op:UnOp}{x:Value}{k:Value→Prop}(h:Un op x k)(w:World):∃v,(Op.unary op x).run P w=.ok v w∧k v:=by
 obtain⟨v,hv,hk⟩:=h
 refine⟨v,?_,hk⟩
 cases op<;>cases x<;>simp[FR]at hv<;>subst hv
 all_goals first|(simp[Op.unary,Op.intArith];done)|rfl
theorem bt.run{kd:IntKind}{x:Value}{k:Value→Prop}(h:bt kd x k)(w:World){src dst:TypeId}{ds dd:TypeDesc}(hs:P.underlying src=some ds)(hd:P.underlying dst=some dd)(hk:dd=.int kd):
  ∃v,(convert src dst x).run P w=.ok v w∧k v:=by
 obtain⟨j,n,rfl,hkv⟩:=h
 subst hk
 refine⟨_,?_,hkv⟩
 simp only[convert,Sem.run_bind,run_underlying hs,run_underlying hd,Result.andThen_ok]
 cases ds<;>rfl
theorem aj.run{off:Nat}{x:Value}{k:Value→Prop}(h:aj off x k)(w:World){s:TypeId}{fs:Array Field}{f:Nat}{fl:Field}{i:TypeInfo}(hs:P.underlying s=some (.struct fs))(hf:fs[f]? =some fl)
 (hi:P.info? fl.type=some i)(h0:i.size≠0)(ho:fl.offset=off):∃v,(Instr.fieldAt s x f).run P w=.ok v w∧k v:=by
 obtain⟨b,o,rfl,hk⟩:=h
 refine⟨_,?_,hk⟩
 subst ho
 simp[Instr.fieldAt,run_underlying hs,hf,Instr.sureAddr,fieldPlace,run_sizeOf hi,h0,Addr.add_lit]
theorem zP.run{off:Nat}{x:Value}{k:Value→Prop}(h:zP off x k)(w:World){s:TypeId}{fs:Array Field}{f:Nat}{fl:Field}{d:TypeDesc}(hs:P.underlying s=some (.struct fs))(hf:fs[f]? =some fl)
 (hd:P.underlying fl.type=some d)(ha:bA d=false)(ho:fl.offset=off):∃v,(Instr.field s x f).run P w=.ok v w∧k v:=by
 obtain⟨cs,v,rfl,hc,hk⟩:=h
 refine⟨v,?_,hk⟩
 subst ho
 simp[Instr.field,run_underlying hs,hf,asAgg,part,fX hd,ha,hc]
theorem y2.run{off n:Nat}{x:Value}{k:Value→Prop}(h:y2 off n x k)(w:World){s:TypeId}{fs:Array Field}{f:Nat}{fl:Field}{d:TypeDesc}{i:TypeInfo}(hs:P.underlying s=some (.struct fs))(hf:fs[f]? =some fl)
 (hd:P.underlying fl.type=some d)(ha:bA d=true)(hi:P.info? fl.type=some i)(hn:i.size=n)(ho:fl.offset=off):∃v,(Instr.field s x f).run P w=.ok v w∧k v:=by
 obtain⟨cs,rfl,hk⟩:=h
 refine⟨_,?_,hk⟩
 subst ho;subst hn
 simp[Instr.field,run_underlying hs,hf,asAgg,part,fX hd,ha,run_sizeOf hi]
theorem ah.run{size:Nat}{x ix:Value}{k:Value→Prop}(h:ah size x ix k)(w:World){t e:TypeId}{i:TypeInfo}(ht:P.underlying t=some (.slice e))(hi:P.info? e=some i)(hn:i.size=size):
  ∃v,(Instr.indexAt t x ix).run P w=.ok v w∧k v:=by
 obtain⟨b,o,n,c,kd,j,rfl,rfl,h0,h1,hk⟩:=h
 refine⟨_,?_,hk⟩
 subst hn
 simp[Instr.indexAt,run_underlying ht,asIntOf,h0,h1,run_sizeOf hi,Addr.add_lit]
theorem dy.run{len size:Nat}{x ix:Value}{k:Value→Prop}(h:dy len size x ix k)(w:World){t e:TypeId}{i:TypeInfo}(ht:P.underlying t=some (.array len e))(hi:P.info? e=some i)(hn:i.size=size):
  ∃v,(Instr.indexAt t x ix).run P w=.ok v w∧k v:=by
 obtain⟨b,o,kd,j,rfl,rfl,h0,h1,hk⟩:=h
 refine⟨_,?_,hk⟩
 subst hn
 simp[Instr.indexAt,run_underlying ht,asIntOf,h0,h1,run_sizeOf hi,Addr.add_lit,Instr.sureAddr]
theorem dm.run{size:Nat}{x:Value}{lo hi:Option Value}{k:Value→Prop}(h:dm size x lo hi k)(w:World){t e:TypeId}{i:TypeInfo}(ht:P.underlying t=some (.slice e))(hi':P.info? e=some i)(hn:i.size=size):
  ∃v,(Instr.sliceAt t x lo hi none).run P w=.ok v w∧k v:=by
 obtain⟨a,n,c,l,hh,rfl,hl,iC,h0,h1,h2,hk⟩:=h
 refine⟨_,?_,hk⟩
 subst hn
 have bl:∀(kk:IntKind) (z:Int) (y:Nat) (cd:BoundsCode),0≤z→z≤y→(Instr.sliceBound (.int kk z) y cd).run P w=.ok z.toNat w:=by
  intro kk z y cd a1 a2
  simp[Instr.sliceBound,asIntOf,a1,a2]
 have dF:∀(m l:Nat),(if m=l then a else a.map (·.add (l*i.size)))=(if m=l then a else a.map fun x=>x.add (l*i.size)):=fun _ _=>rfl
 have e1:l≤((hh.toNat:Nat):Int):=by omega
 cases lo with
 |none=>
  simp only[yd,Option.some.injEq]at hl
  subst hl
  cases hi with
  |none=>
   simp only[tn,Option.some.injEq]at iC
   subst iC
   simp[Instr.sliceAt,run_underlying ht,Instr.slice,Instr.sliceBounds,run_sizeOf hi']
  |some v=>
   cases v<;>simp only[tn,reduceCtorEq,Option.some.injEq]at iC
   subst iC
   simp[Instr.sliceAt,run_underlying ht,Instr.slice,Instr.sliceBounds,run_sizeOf hi',bl _ _ c .sliceAcap (by omega) h2]
 |some vl=>
  cases vl<;>simp only[yd,reduceCtorEq,Option.some.injEq]at hl
  subst hl
  cases hi with
  |none=>
   simp only[tn,Option.some.injEq]at iC
   subst iC
   have:=bl ‹_› _ n .sliceB h0 h1
   simp[Instr.sliceAt,run_underlying ht,Instr.slice,Instr.sliceBounds,run_sizeOf hi',this]
  |some v=>
   cases v<;>simp only[tn,reduceCtorEq,Option.some.injEq]at iC
   subst iC
   rename_i k1 n1 k2 n2
   have b1:=bl k2 n2 c .sliceAcap (by omega) h2
   have b2:=bl k1 n1 n2.toNat .sliceB h0 (by omega)
   simp[Instr.sliceAt,run_underlying ht,Instr.slice,Instr.sliceBounds,run_sizeOf hi',b1,b2]
theorem Ext.run{i:Nat}{x:Value}{k:Value→Prop}(h:Ext i x k)(w:World):∃v,(Instr.extract x i).run P w=.ok v w∧k v:=by
 obtain⟨vs,v,rfl,hv,hk⟩:=h
 exact⟨v,by simp[Instr.extract,hv],hk⟩
theorem bM.run{x:Value}{k:Value→Prop}(h:bM x k)(w:World){t e ty:TypeId}(ht:P.underlying t=some (.slice e)):∃v,(Builtin.len_ #[t] ty #[x]).run P w=.ok v w∧k v:=by
 obtain⟨a,n,c,rfl,hk⟩:=h
 exact⟨_,by simp[Builtin.len_,run_underlying ht,goInt],hk⟩
theorem az{w:World}(hw:Own g H w){b:Nat}{es:Array MapEntry}{clock:Nat}(hm:(b,Obj.map es clock)∈H):(getObj b).run P w=.ok (.map es clock) w:=by
 have:=hw.has _ hm
 simp only at this
 simp[getObj,Sem.run,this]
theorem tX.run{x:Value}{k:Value→Prop}(h:tX H x k){w:World}(hw:Own g H w){t e e' ty:TypeId}(ht:P.underlying t=some (.map e e')):∃v,(Builtin.len_ #[t] ty #[x]).run P w=.ok v w∧k v:=by
 obtain⟨m,rfl,⟨rfl,hk⟩|⟨b,es,clock,rfl,hm,hk⟩⟩:=h
 ·exact⟨_,by simp[Builtin.len_,run_underlying ht,goInt],hk⟩
 ·exact⟨_,by simp[Builtin.len_,run_underlying ht,goInt,az hw hm],hk⟩
end
end Go.Sx
namespace Go.Sx
open Go
section
variable {P:Program} {g:Gh} {H:Hp} {K:Value→Hp→Prop} {KP:List PanicEntry→Hp→Prop}
theorem Cells.run{w:World}(hw:Own g H w){base:Option Addr}{size n cap:Nat}{cs:Array Value}(h:Cells H base (n*size) cs):
  (Builtin.firstCells size n (.slice base n cap)).run P w=.ok cs w:=by
 cases base with
 |none=>simp only[Cells]at h;subst h;simp[Builtin.firstCells]
 |some a=>
  rcases h with⟨hn,rfl⟩|⟨h0,c,T,fz,hm,hs,rfl⟩
  ·simp only[Builtin.firstCells,hn];rfl
  obtain⟨b,o,sp⟩:=a
  simp only at h0 hm hs;subst h0
  simp only[Builtin.firstCells,ea hw hm _ _ hs]
theorem App.run{elem size bytes:Nat}{zero:Value}{s x:Value}{k:Value→Hp→Prop}(h:App P elem size bytes zero H s x k){w:World}(hw:Own g H w){t t' ty:TypeId}{i:TypeInfo}
 (ht:P.underlying t=some (.slice elem))(ht':∃e,P.underlying t'=some (.slice e))(hi:P.info? elem=some i)(hz:i.zero=some zero)(hn:i.size=size)(hb:i.bytes=bytes):
  ∃v w' H',(Builtin.append_ #[t,t'] ty #[s,x]).run P w=.ok v w'∧Own g H' w'∧k v H':=by
 obtain⟨base,n,cap,xb,m,xc,olds,news,rfl,rfl,H7,Gi,Js,Jr,hone,hfit,hgrow⟩:=h
 obtain⟨e',ht'⟩:=ht'
 subst hn;subst hb
 by_cases hc:n+m≤cap
 ·have hk:=hfit hc
  have hnew:=Cells.run (P:=P) (cap:=xc) hw Gi
  cases base with
  |none=>
   refine⟨_,w,H,?_,hw,hk⟩
   simp[Builtin.append_,run_underlying ht,run_underlying ht',run_sizeOf hi,Builtin.lenOf,hc,hnew]
  |some a=>
   obtain⟨c,T,H',h0,hs,hu,hk⟩:=hk
   obtain⟨b,o,sp⟩:=a
   simp only at h0 hu hs;subst h0
   obtain⟨w',hr,ho⟩:=cE (P:=P) (o+n*i.size) news.toList 0 c H H' w hw (by simpa using hu) hone (by simp;omega)
   refine⟨_,w',H',?_,ho,hk⟩
   simp[Builtin.append_,run_underlying ht,run_underlying ht',run_sizeOf hi,Builtin.lenOf,hc,hnew,Addr.add_lit,hr]
 ·obtain⟨EN,h63,hk⟩:=hgrow (by omega)
  have ji:=hw.drew
  have hnew:=Cells.run (P:=P) (cap:=xc) ji Gi
  have hold:=Cells.run (P:=P) (cap:=cap) ji H7
  have Ao:Builtin.nextslicecap (n+m) cap*i.bytes≤281474976710656:=growslice_fits (by omega) EN
  have Fg:¬(281474976710656<Builtin.nextslicecap (n+m) cap*i.bytes):=by omega
  have Ff:¬(9223372036854775807<((n:Int)+(m:Int))):=by omega
  obtain⟨gO,kf,hkk⟩:=hk (grownCap w (n+m) cap elem) (by simp only[grownCap,Question.cut];omega) _ ji.fresh
  refine⟨_,_,_,?_,kf _ _ (ji.alloc _),hkk⟩
  ·simp[Builtin.append_,run_underlying ht,run_underlying ht',sizeOf,typeInfo,zeroValue,hi,hz,Builtin.lenOf,hc,Ff,Fg,Question.forced,hnew,hold,newRow,grownCap]
theorem da.run{elem size bytes:Nat}{zero:Value}{l c:Value}{k:Value→Hp→Prop}(h:da elem size bytes zero H l c k){w:World}(hw:Own g H w){t:TypeId}{i:TypeInfo}
 (ht:P.underlying t=some (.slice elem))(hi:P.info? elem=some i)(hz:i.zero=some zero)(hn:i.size=size)(hb:i.bytes=bytes):
  ∃v w' H',(Instr.makeSlice t l c).run P w=.ok v w'∧Own g H' w'∧k v H':=by
 obtain⟨kl,kc,ln,cn,rfl,rfl,hlc,bL,hby,hk⟩:=h
 subst hn;subst hb
 refine⟨_,_,_,?_,hw.alloc _,hk _ hw.fresh⟩
 have e1:IntKind.i64.wrap (ln:Int)=ln:=IntWalk.i64_in _ (by omega)
 have e2:IntKind.i64.wrap (cn:Int)=cn:=IntWalk.i64_in _ (by omega)
 have e3:¬((i.bytes:Int)*(cn:Int)>281474976710656):=by
  have:((cn*i.bytes:Nat):Int)≤281474976710656:=by omega
  rw[Int.mul_comm];push_cast at this;omega
 have e4:¬((cn:Int)<ln):=by omega
 by_cases h0:cn*i.size=0
 ·simp[Instr.makeSlice,run_underlying ht,asInt,asIntOf,typeInfo,hi,e1,e2,e3,e4,sizeOf,zeroValue,hz,newRow,madeCells,h0,show¬((cn:Int)<0)from by omega,show¬((ln:Int)<0)from by omega]
  have:Array.range 0=#[]:=rfl
  simp[this]
 ·simp[Instr.makeSlice,run_underlying ht,asInt,asIntOf,typeInfo,hi,e1,e2,e3,e4,sizeOf,zeroValue,hz,newRow,madeCells,h0,show¬((cn:Int)<0)from by omega,show¬((ln:Int)<0)from by omega]
theorem sG.run{m:Value}{es:Array MapEntry}(h:sG H m es){w:World}(hw:Own g H w):
  (m=.map none∧es=#[])∨∃b clock,m=.map (some b)∧(getObj b).run P w=.ok (.map es clock) w:=by
 rcases h with h|⟨b,clock,hm,hb⟩
 ·exact .inl h
 ·exact .inr ⟨b,clock,hm,az hw hb⟩
theorem run_checkKey(e:Bool){t:TypeId}{d:TypeDesc}(hd:P.underlying t=some d)(hp:plainKey d=true)(v:Value)(w:World):(Instr.checkKey e 10000 t v).run P w=.ok () w:=by
 have:∀n,(Instr.checkKey e (n+1) t v).run P w=.ok () w:=fun n=>by
  simp only[Instr.checkKey,Sem.run_bind,run_underlying hd,Result.andThen_ok]
  cases d<;>first|(simp[plainKey]at hp;done)|rfl
 exact this 9999
theorem run_findKey{t:TypeId}{d:TypeDesc}(hd:P.underlying t=some d){key:Value}{es:List MapEntry}{r:Option (Nat×Value)}(h:Instr.findNow d key es 0=some r)(w:World):
  (Instr.findKey t key es).run P w=.ok r w:=by
 simp[Instr.findKey,run_underlying hd,h]
theorem fU.run{kd:TypeDesc}{zero:Value}{ok:Bool}{m key:Value}{k:Value→Prop}(h:fU kd zero ok H m key k){w:World}(hw:Own g H w){t kt e:TypeId}{i:TypeInfo}
 (ht:P.underlying t=some (.map kt e))(hk:P.underlying kt=some kd)(hp:plainKey kd=true)(hi:P.info? e=some i)(hz:i.zero=some zero):
  ∃v,(Instr.lookup t m key ok).run P w=.ok v w∧k v:=by
 obtain⟨es,r,hm,hf,hkv⟩:=h
 have cH:=fun b=>run_checkKey (P:=P) b hk hp key w
 have kW:=run_findKey (P:=P) hk hf w
 refine⟨_,?_,hkv⟩
 rcases hm.run (P:=P) hw with⟨rfl,rfl⟩|⟨b,clock,rfl,hg⟩
 ·cases r with
  |none=>cases ok<;>simp[Instr.lookup,run_underlying ht,cH,kW,cy hi hz]
  |some x=>obtain⟨j,v⟩:=x;cases ok<;>simp[Instr.lookup,run_underlying ht,cH,kW]
 ·cases r with
  |none=>cases ok<;>simp[Instr.lookup,run_underlying ht,cH,kW,cy hi hz,hg]
  |some x=>obtain⟨j,v⟩:=x;cases ok<;>simp[Instr.lookup,run_underlying ht,cH,kW,hg]
theorem br{w:World}(hw:Own g H w){b:Nat}{es:Array MapEntry}{clock:Nat}(es':Array MapEntry)(clock':Nat){H':Hp}(hu:cv b (.map es clock) (.map es' clock') H H'):
  ∃w',(setObj b (.map es' clock')).run P w=.ok () w'∧Own g H' w':=by
 have hm:=hw.has _ hu.mem
 simp only at hm
 refine⟨{w with heap:=w.heap.setIfInBounds b (.map es' clock')},by simp[setObj,Sem.run,hm],?_⟩
 have hlt:=hw.lt hu.mem
 refine hw.aP hu rfl rfl rfl ?_ ?_
 ·simp only at hlt;simp[hlt]
 ·intro c hc;rw[Array.getElem?_setIfInBounds,if_neg (fun e=>hc (Eq.symm e))]
theorem aN.run{kd:TypeDesc}{m key val:Value}{k:Hp→Prop}(h:aN kd H m key val k){w:World}(hw:Own g H w){t kt e:TypeId}
 (ht:P.underlying t=some (.map kt e))(hk:P.underlying kt=some kd)(hp:plainKey kd=true):
  ∃w' H',(Instr.mapUpdate t m key val).run P w=.ok () w'∧Own g H' w'∧k H':=by
 obtain⟨b,es,clock,r,rfl,hf,hr⟩:=h
 have cH:=fun b=>run_checkKey (P:=P) b hk hp key w
 have kW:=run_findKey (P:=P) hk hf w
 cases r with
 |none=>
  obtain⟨H',hu,hkk⟩:=hr
  obtain⟨w',hs,ho⟩:=br (P:=P) hw _ _ hu
  refine⟨w',H',?_,ho,hkk⟩
  simp[Instr.mapUpdate,run_underlying ht,az hw hu.mem,cH,kW,hs]
 |some x=>
  obtain⟨j,v⟩:=x
  obtain⟨hsame,hj,H',hu,hkk⟩:=hr
  obtain⟨w',hs,ho⟩:=br (P:=P) hw _ _ hu
  refine⟨w',H',?_,ho,hkk⟩
  have Eh:=hsame es[j] (Array.getElem?_eq_getElem hj)
  simp[Instr.mapUpdate,run_underlying ht,az hw hu.mem,cH,kW,hj,Instr.keyThatStays,Eh,hs]
theorem qc.run{kd:TypeDesc}{m key:Value}{k:Hp→Prop}(h:qc kd H m key k){w:World}(hw:Own g H w){t kt e ty:TypeId}{as:Array TypeId}(has:as[0]? =some t)
 (ht:P.underlying t=some (.map kt e))(hk:P.underlying kt=some kd)(hp:plainKey kd=true):
  ∃w' H',(Builtin.delete_ as ty #[m,key]).run P w=.ok (.tuple #[]) w'∧Own g H' w'∧k H':=by
 have cH:=fun b=>run_checkKey (P:=P) b hk hp key w
 rcases h with⟨rfl,hkk⟩|⟨b,es,clock,r,rfl,hf,hr⟩
 ·exact⟨w,H,by simp[Builtin.delete_,has,run_underlying ht,cH],hw,hkk⟩
 ·have kW:=run_findKey (P:=P) hk hf w
  cases r with
  |none=>
   obtain⟨hm,hkk⟩:=hr
   have hu:∃H',cv b (.map es clock) (.map es clock) H H'∧H'=H:=by
    clear hkk hf kW hw
    induction H with
    |nil=>simp at hm
    |cons x R ih=>
     rcases List.mem_cons.1 hm with e|hm'
     ·subst e;exact⟨_,.head _,rfl⟩
     ·obtain⟨H',u,rfl⟩:=ih hm';exact⟨_,.tail u,rfl⟩
   obtain⟨H',hu,rfl⟩:=hu
   obtain⟨w',hs,ho⟩:=br (P:=P) hw _ _ hu
   exact⟨w',_,by simp[Builtin.delete_,has,run_underlying ht,az hw hm,cH,kW,hs],ho,hkk⟩
  |some x=>
   obtain⟨j,v⟩:=x
   obtain⟨H',hu,hkk⟩:=hr
   obtain⟨w',hs,ho⟩:=br (P:=P) hw _ _ hu
   exact⟨w',_,by simp[Builtin.delete_,has,run_underlying ht,az hw hu.mem,cH,kW,hs],ho,hkk⟩
theorem ot{kd:TypeDesc}(h:bA kd=true)(key:Value)(es:List MapEntry)(i:Nat):Instr.findNow kd key es i=if es=[]then some none else none:=by
 cases es with
 |nil=>rfl
 |cons e r=>
  simp only[Instr.findNow,reduceCtorEq,if_false]
  cases kd<;>simp[bA]at h<;>rfl
theorem fG{kt:TypeId}{key:Value}:∀{es:List MapEntry} {i:Nat} {r:Option (Nat×Value)},fA P kt key es i r→∀w,(Instr.findAsking kt key es i).run P w=.ok r w
 | [],i,r,h,w=>by simp only[fA]at h;subst h;rfl
 |e::es,i,r,h,w=>by
  obtain⟨b,he,h1,h2⟩:=h
  simp only[Instr.findAsking,Sem.run_bind,he w,Result.andThen_ok]
  cases b
  ·simp only[Bool.false_eq_true,if_false];exact fG (h2 rfl) w
  ·simp only[if_true,h1 rfl,Sem.run_pure]
theorem eT{t:TypeId}{d:TypeDesc}(hd:P.underlying t=some d)(ha:bA d=true){key:Value}{es:List MapEntry}{r:Option (Nat×Value)}(h:fA P t key es 0 r)(w:World):
  (Instr.findKey t key es).run P w=.ok r w:=by
 simp only[Instr.findKey,Sem.run_bind,run_underlying hd,Result.andThen_ok,ot ha]
 cases es with
 |nil=>simp only[fA]at h;subst h;simp
 |cons e es=>simp only[reduceCtorEq,if_false];exact fG h w
theorem fy.run{zero:Value}{ok:Bool}{m key:Value}{k:Value→Prop}{t kt e:TypeId}{kd:TypeDesc}(h:fy P kt zero ok H m key k){w:World}(hw:Own g H w){i:TypeInfo}
 (ht:P.underlying t=some (.map kt e))(hk:P.underlying kt=some kd)(hp:bA kd=true)(hi:P.info? e=some i)(hz:i.zero=some zero):
  ∃v,(Instr.lookup t m key ok).run P w=.ok v w∧k v:=by
 obtain⟨es,r,hm,hc,hf,hkv⟩:=h
 have cH:=fun b=>hc b w
 have kW:=eT (P:=P) hk hp hf w
 refine⟨_,?_,hkv⟩
 rcases hm.run (P:=P) hw with⟨rfl,rfl⟩|⟨b,clock,rfl,hg⟩
 ·cases r with
  |none=>cases ok<;>simp[Instr.lookup,run_underlying ht,cH,kW,cy hi hz]
  |some x=>obtain⟨j,v⟩:=x;cases ok<;>simp[Instr.lookup,run_underlying ht,cH,kW]
 ·cases r with
  |none=>cases ok<;>simp[Instr.lookup,run_underlying ht,cH,kW,cy hi hz,hg]
  |some x=>obtain⟨j,v⟩:=x;cases ok<;>simp[Instr.lookup,run_underlying ht,cH,kW,hg]
theorem fk.run{m key val:Value}{k:Hp→Prop}{t kt e:TypeId}{kd:TypeDesc}(h:fk P kt H m key val k){w:World}(hw:Own g H w)
 (ht:P.underlying t=some (.map kt e))(hk:P.underlying kt=some kd)(hp:bA kd=true):
  ∃w' H',(Instr.mapUpdate t m key val).run P w=.ok () w'∧Own g H' w'∧k H':=by
 obtain⟨b,es,clock,r,rfl,hc,hf,hr⟩:=h
 have cH:=fun b=>hc b w
 have kW:=eT (P:=P) hk hp hf w
 cases r with
 |none=>
  obtain⟨H',hu,hkk⟩:=hr
  obtain⟨w',hs,ho⟩:=br (P:=P) hw _ _ hu
  refine⟨w',H',?_,ho,hkk⟩
  simp[Instr.mapUpdate,run_underlying ht,az hw hu.mem,cH,kW,hs]
 |some x=>
  obtain⟨j,v⟩:=x
  obtain⟨hsame,hj,H',hu,hkk⟩:=hr
  obtain⟨w',hs,ho⟩:=br (P:=P) hw _ _ hu
  refine⟨w',H',?_,ho,hkk⟩
  have Eh:=hsame es[j] (Array.getElem?_eq_getElem hj)
  simp[Instr.mapUpdate,run_underlying ht,az hw hu.mem,cH,kW,hj,Instr.keyThatStays,Eh,hs]
theorem cv.same{b:Nat}{o:Obj}{H:Hp}(hm:(b,o)∈H):cv b o o H H:=by
 induction H with
 |nil=>simp at hm
 |cons x R ih=>
  rcases List.mem_cons.1 hm with e|hm'
  ·subst e;exact .head _
  ·exact .tail (ih hm')
theorem iz.run{m key:Value}{k:Hp→Prop}{t kt e ty:TypeId}{kd:TypeDesc}{as:Array TypeId}(h:iz P kt H m key k){w:World}(hw:Own g H w)(has:as[0]? =some t)
 (ht:P.underlying t=some (.map kt e))(hk:P.underlying kt=some kd)(hp:bA kd=true):
  ∃w' H',(Builtin.delete_ as ty #[m,key]).run P w=.ok (.tuple #[]) w'∧Own g H' w'∧k H':=by
 obtain⟨hc,h⟩:=h
 have cH:=fun b=>hc b w
 rcases h with⟨rfl,hkk⟩|⟨b,es,clock,r,rfl,hf,hr⟩
 ·exact⟨w,H,by simp[Builtin.delete_,has,run_underlying ht,cH],hw,hkk⟩
 ·have kW:=eT (P:=P) hk hp hf w
  cases r with
  |none=>
   obtain⟨hm,hkk⟩:=hr
   obtain⟨w',hs,ho⟩:=br (P:=P) hw _ _ (cv.same hm)
   exact⟨w',_,by simp[Builtin.delete_,has,run_underlying ht,az hw hm,cH,kW,hs],ho,hkk⟩
  |some x=>
   obtain⟨j,v⟩:=x
   obtain⟨H',hu,hkk⟩:=hr
   obtain⟨w',hs,ho⟩:=br (P:=P) hw _ _ hu
   exact⟨w',_,by simp[Builtin.delete_,has,run_underlying ht,az hw hu.mem,cH,kW,hs],ho,hkk⟩
theorem DM.run{x:Value}{k:Value→Hp→Prop}(h:DM H x k){w:World}(hw:Own g H w){t kt e:TypeId}(ht:P.underlying t=some (.map kt e)):
  ∃v w' H',(Instr.range t x).run P w=.ok v w'∧Own g H' w'∧k v H':=by
 rcases h with⟨rfl,hk⟩|⟨m,es,clock,rfl,hm,hk⟩
 ·refine⟨_,_,_,?_,hw.alloc _,hk _ hw.fresh⟩
  simp[Instr.range,run_underlying ht]
 ·refine⟨_,_,_,?_,hw.alloc _,hk _ hw.fresh⟩
  simp[Instr.range,run_underlying ht,az hw hm]
theorem fm{w:World}(hw:Own g H w){b:Nat}{mo:Option Nat}{since last:Nat}{seen:Array Nat}(hm:(b,Obj.mapIter mo since seen last)∈H):(getObj b).run P w=.ok (.mapIter mo since seen last) w:=by
 have:=hw.has _ hm
 simp only at this
 simp[getObj,Sem.run,this]
theorem ju{w:World}(hw:Own g H w){b:Nat}{mo D6:Option Nat}{since last since' last':Nat}{seen seen':Array Nat}{H':Hp}(hu:cv b (.mapIter mo since seen last) (.mapIter D6 since' seen' last') H H'):
  ∃w',(setObj b (.mapIter D6 since' seen' last')).run P w=.ok () w'∧Own g H' w':=by
 have hm:=hw.has _ hu.mem
 simp only at hm
 refine⟨{w with heap:=w.heap.setIfInBounds b (.mapIter D6 since' seen' last')},by simp[setObj,Sem.run,hm],?_⟩
 have hlt:=hw.lt hu.mem
 refine hw.aP hu rfl rfl rfl ?_ ?_
 ·simp only at hlt;simp[hlt]
 ·intro c hc;rw[Array.getElem?_setIfInBounds,if_neg (fun e=>hc (Eq.symm e))]
theorem y3.run{it:Value}{k:Value→Prop}(h:y3 H it k){w:World}(hw:Own g H w):∃v,(Instr.entry it).run P w=.ok v w∧k v:=by
 obtain⟨b,m,since,seen,stamp,clock,es,e,rfl,hb,hs,hm,hf,hk⟩:=h
 refine⟨_,?_,hk⟩
 simp[Instr.entry,fm (P:=P) hw hb,hs,az (P:=P) hw hm,hf]
theorem jv(n:Nat)(hn:0<n){w:World}:∃i w',(choose (.mapNext n)).run P w=.ok i w'∧i<n∧(w'=w∨w'=w.drew):=by
 by_cases h:n≤1
 ·exact⟨0,w,by simp[choose,Sem.run,Question.forced,h],hn,.inl rfl⟩
 ·exact⟨_,_,by simp only[choose,Sem.run,Question.forced,h,decide_false,Bool.false_eq_true,if_false];rfl,Nat.mod_lt _ hn,.inr rfl⟩
theorem C4.run{it:Value}{k:Value→Hp→Prop}(h:C4 H it k){w:World}(hw:Own g H w){ty:TypeId}:
  ∃v w' H',(Instr.next it false ty).run P w=.ok v w'∧Own g H' w'∧k v H':=by
 obtain⟨b,mo,since,seen,last,rfl,hb,h⟩:=h
 have Ge:=fm (P:=P) hw hb
 cases mo with
 |none=>exact⟨_,w,H,by simp[Instr.next,Ge],hw,h⟩
 |some m=>
  obtain⟨es,clock,hm,v9,BR,BO⟩:=h
  have HQ:=az (P:=P) hw hm
  have BU:(!seen.isEmpty&& !es.isEmpty&&es.all (fun e=>decide (e.born≥last)))=false:=by
   cases he:es.isEmpty
   ·have hne:es≠#[]:=by intro e;rw[e]at he;simp at he
    have:es.all (fun e=>decide (e.born≥last))=false:=by
     rw[←Bool.not_eq_true,Array.all_eq_true]
     intro aF
     have h0:0<es.size:=Array.size_pos_iff.2 hne
     have:=aF 0 h0
     have h2:=(v9 es[0] (by simp)).2
     simp only[ge_iff_le,decide_eq_true_eq]at this
     omega
    rw[this];simp
   ·simp
  have hold:((es.filter fun e=> !seen.contains e.born).filter fun e=>decide (e.born<since))=es.filter fun e=> !seen.contains e.born:=by
   rw[Array.filter_eq_self]
   intro e he
   have:=(Array.mem_filter.1 he).1
   exact decide_eq_true (v9 e (by simpa using this)).1
  have hnew:((es.filter fun e=> !seen.contains e.born).filter fun e=>decide (e.born≥since))=#[]:=by
   rw[Array.filter_eq_empty_iff]
   intro e he
   have:=(Array.mem_filter.1 he).1
   have:=(v9 e (by simpa using this)).1
   simp only[ge_iff_le,decide_eq_true_eq];omega
  generalize hleft:(es.filter fun e=> !seen.contains e.born)=left at hold hnew
  have hrun:∀(rest:Sem Value),(Instr.next (.pointer (some ⟨b,0,none⟩)) false ty).run P w=((choose (.mapNext (((if left.isEmpty then#[none]else#[])++left.map some).size))).run P w).andThen fun i w=>(Sem.run P (match((if left.isEmpty then#[none]else#[])++left.map some)[i]? with
    |some (some e)=>do setObj b (.mapIter (some m) since (seen.push e.born) clock);pure (.tuple #[.bool true,e.key,e.val])
    |some none=>pure (.tuple #[.bool false])
    |none=>stuck "Next: no such candidate" :Sem Value) w):=by
   intro _
   simp only[Instr.next,Sem.run_bind,Ge,Result.andThen_ok,HQ,BU,Bool.false_eq_true,if_false,hleft,hold,hnew,Array.append_empty,Sem.run_pure]
   rfl
  rw[hrun (pure undef)]
  by_cases Ax:left=#[]
  ·subst Ax
   simp only[Array.isEmpty_empty,if_true,Array.map_empty,Array.append_empty]
   refine⟨_,w,H,?_,hw,BO fun e he=>?_⟩
   ·simp[choose,Sem.run,Question.forced]
   ·have:=Array.filter_eq_empty_iff.1 hleft e (by simpa using he)
    simpa using this
  ·have hne:left.isEmpty=false:=by simpa using Ax
   have hpos:0<left.size:=Array.size_pos_iff.2 Ax
   simp only[hne,Bool.false_eq_true,if_false,Array.empty_append,Array.size_map]
   obtain⟨i,w1,hc,hi,ji⟩:=jv (P:=P) (w:=w) left.size hpos
   rw[hc]
   simp only[Result.andThen_ok]
   have fC:(left.map some)[i]? =some (some left[i]):=by simp[hi]
   simp only[fC]
   have hmem:left[i]∈es.filter fun e=> !seen.contains e.born:=by rw[hleft];exact Array.getElem_mem hi
   obtain⟨EJ,B6⟩:=Array.mem_filter.1 hmem
   obtain⟨H',hu,hk⟩:=BR left[i] (by simpa using EJ) (by simpa using B6)
   have zu:Own g H w1:=by rcases ji with rfl|rfl;exact hw;exact hw.drew
   obtain⟨w2,hs,zq⟩:=ju (P:=P) zu hu
   exact⟨_,w2,H',by simp[hs],zq,hk⟩
end
end Go.Sx
namespace Go.Sx
open Go
section
variable {P:Program} {g:Gh} {H:Hp} {K:Value→Hp→Prop} {KP:List PanicEntry→Hp→Prop}
def C5(x:Value):Option Value:=
 match x with
 | .pointer (some a)=>some (.pointer (some a))
 | .func (.func f) a b=>some (.func (.func f) a b)
 | .iface t v=>some (.iface t v)
 |_=>none
def Nil(x:Value)(k:Value→Prop):Prop:=∃v,C5 x=some v∧k v
def IQ(fn:Fn)(a b:List Value)(k:Value→Prop):Prop:=k (.func fn a.toArray b.toArray)
def Build(P:Program)(t:TypeId)(parts:List (Nat×Value))(k:Value→Prop):Prop:=∃v,(∀w,(Instr.build t parts.toArray).run P w=.ok v w)∧k v
def dn(P:Program)(g:Gh)(o:Oper)(ρ:Operand→Value)(H:Hp)(k:Value→Prop):Prop:=
 ∃v,(∀w,Own g H w→(execOp ρ o).run P w=.ok (.value v) w)∧k v
def bR(P:Program)(t:TypeId):Option Nat:=match P.info? t with|some i=>some i.size|none=>none
def dc(P:Program)(t:TypeId):Option Value:=match P.info? t with|some i=>i.zero|none=>none
def kF(P:Program)(t:TypeId):Option Nat:=match P.info? t with|some i=>some i.bytes|none=>none
def rV(P:Program)(g:Gh)(o:Oper)(ρ:Operand→Value)(H:Hp)(k:Value→Prop):Prop:=
 match o.op with
 | .move x=>k (ρ x)
 | .assign x=>k (ρ x)
 | .pick c a b=>ax (ρ c) (ρ a) (ρ b) k
 | .load t a=>
  match P.underlying t,bR P t with
  |some d,some n=>cond (bA d) (aB n H (ρ a) k) (Ld H (ρ a) k)
  |_,_=>False
 | .nilCheck x=>Nil (ρ x) k
 | .binOp op t x y _=>
  match P.underlying t with
  |some d=>match nh d with
   | .other=>dn P g o ρ H k
   |bk=>ae bk op (ρ x) (ρ y) k
  |none=>False
 | .unOp op _ x=>Un op (ρ x) k
 | .convert s d x=>
  match P.underlying s,P.underlying d with
  |some _,some (.int kd)=>bt kd (ρ x) k
  |some (.slice e),some .string=>match P.underlying e with
   |some (.int .u8)=>iU H (ρ x) k
   |_=>dn P g o ρ H k
  |_,_=>dn P g o ρ H k
 | .index t x i=>
  match P.underlying t with
  |some .string=>zN (ρ x) (ρ i) k
  |_=>dn P g o ρ H k
 | .fieldAddr s x f=>
  match P.underlying s with
  |some (.struct fs)=>match fs[f]? with
   |some fl=>match bR P fl.type with
    |some (_+1)=>aj fl.offset (ρ x) k
    |_=>False
   |none=>False
  |_=>False
 | .field s x f=>
  match P.underlying s with
  |some (.struct fs)=>match fs[f]? with
   |some fl=>match P.underlying fl.type,bR P fl.type with
    |some d,some n=>cond (bA d) (y2 fl.offset n (ρ x) k) (zP fl.offset (ρ x) k)
    |_,_=>False
   |none=>False
  |_=>False
 | .indexAddr t x i=>
  match P.underlying t with
  |some (.slice e)=>match bR P e with
   |some n=>ah n (ρ x) (ρ i) k
   |none=>False
  |some (.array len e)=>match bR P e with
   |some n=>dy len n (ρ x) (ρ i) k
   |none=>False
  |_=>False
 | .slice t x lo hi none=>
  match P.underlying t with
  |some (.slice e)=>match bR P e with
   |some n=>dm n (ρ x) (lo.map ρ) (hi.map ρ) k
   |none=>False
  |_=>dn P g o ρ H k
 | .extract t i=>Ext i (ρ t) k
 | .lookup t m key ok=>
  match P.underlying t with
  |some (.map kt e)=>match P.underlying kt,dc P e with
   |some kd,some z=>cond (plainKey kd) (fU kd z ok H (ρ m) (ρ key) k) (cond (bA kd) (fy P kt z ok H (ρ m) (ρ key) k) (dn P g o ρ H k))
   |_,_=>False
  |_=>False
 | .makeFunc fn a b=>IQ fn (a.toList.map ρ) (b.toList.map ρ) k
 | .build t parts=>Build P t (parts.toList.map fun p=>(p.1,ρ p.2)) k
 | .makeInterface t x=>
  match P.underlying t with
  |some (.interface _)=>False
  |some _=>k (.iface t (ρ x))
  |none=>False
 | .call c=>
  match c.callee with
  | .builtin .len=>
   match c.args.toList,c.argTypes.toList with
   | [x],[t]=>match P.underlying t with
    |some (.slice _)=>bM (ρ x) k
    |some (.map _ _)=>tX H (ρ x) k
    |some .string=>AT (ρ x) k
    |_=>dn P g o ρ H k
   |_,_=>False
  | .builtin .max=>match c.args.toList,c.argTypes.toList with
   | [x,y],[t,_]=>match P.underlying t with
    |some (.int _)=>FC (ρ x) (ρ y) k
    |_=>dn P g o ρ H k
   |_,_=>dn P g o ρ H k
  | .builtin .min=>match c.args.toList,c.argTypes.toList with
   | [x,y],[t,_]=>match P.underlying t with
    |some (.int _)=>C6 (ρ x) (ρ y) k
    |_=>dn P g o ρ H k
   |_,_=>dn P g o ρ H k
  | .builtin _=>dn P g o ρ H k
  |_=>False
 |_=>dn P g o ρ H k
theorem mapList{α β:Type}(f:α→β)(a:Array α):(a.toList.map f).toArray=a.map f:=by rw[←Array.toList_map,Array.toArray_toList]
theorem CQ{α:Type}{a:Array α}{x:α}(h:a.toList=[x]):a=#[x]:=by cases a;simp_all
theorem oM{α:Type}{a:Array α}{x y:α}(h:a.toList=[x,y]):a=#[x,y]:=by cases a;simp_all
theorem Ld.fix{p:Value}{k:Value→Prop}(h:Ld H p k):∃v,k v∧Ld H p (· =v):=by
 obtain⟨b,off,c,T,fz,v,h1,h2,h3,hk⟩:=h;exact⟨v,hk,b,off,c,T,fz,v,h1,h2,h3,rfl⟩
theorem aB.fix{n:Nat}{p:Value}{k:Value→Prop}(h:aB n H p k):∃v,k v∧aB n H p (· =v):=by
 obtain⟨b,off,c,T,fz,h1,h2,h3,hk⟩:=h;exact⟨_,hk,b,off,c,T,fz,h1,h2,h3,rfl⟩
theorem fU.fix{kd:TypeDesc}{zero:Value}{ok:Bool}{m key:Value}{k:Value→Prop}(h:fU kd zero ok H m key k):∃v,k v∧fU kd zero ok H m key (· =v):=by
 obtain⟨es,r,h1,h2,hk⟩:=h;exact⟨_,hk,es,r,h1,h2,rfl⟩
theorem tX.fix{x:Value}{k:Value→Prop}(h:tX H x k):∃v,k v∧tX H x (· =v):=by
 obtain⟨m,h1,⟨h2,hk⟩|⟨b,es,clock,h2,h3,hk⟩⟩:=h
 ·exact⟨_,hk,m,h1,.inl ⟨h2,rfl⟩⟩
 ·exact⟨_,hk,m,h1,.inr ⟨b,es,clock,h2,h3,rfl⟩⟩
theorem fy.fix{kt:TypeId}{zero:Value}{ok:Bool}{m key:Value}{k:Value→Prop}(h:fy P kt zero ok H m key k):∃v,k v∧fy P kt zero ok H m key (· =v):=by
 obtain⟨es,r,h1,h2,h3,hk⟩:=h;exact⟨_,hk,es,r,h1,h2,h3,rfl⟩
theorem pV{F:Value→ByteArray→Sem (ForInStep ByteArray)}(hF:∀(b:UInt8) s,F (.int .u8 b.toNat) s=pure (.yield (s.push b))){l:List UInt8}(s:ByteArray)(w:World):
  (forIn (l.map fun b=>Value.int .u8 b.toNat) s F).run P w=.ok (⟨s.data++l.toArray⟩:ByteArray) w:=by
 induction l generalizing s with
 |nil=>simp
 |cons b r ih=>
  simp only[List.map_cons,List.forIn_cons,hF,Sem.run_bind,Sem.run_pure,Result.andThen_ok]
  rw[ih]
  congr 1
  simp[ByteArray.push]
theorem iU.run{x:Value}{k:Value→Prop}(h:iU H x k){w:World}(hw:Own g H w):∃v,(Conv.bytesToString x).run P w=.ok v w∧k v:=by
 obtain⟨base,n,c,bs,rfl,hc,hn,hk⟩:=h
 refine⟨_,?_,hk⟩
 cases base with
 |none=>
  simp only[Cells]at hc
  have:bs=[]:=by simpa using congrArg Array.size hc
  subst this;rfl
 |some a=>
  have:=Cells.run (P:=P) (size:=1) (cap:=c) hw (by rw[Nat.mul_one];exact hc)
  simp only[Builtin.firstCells,Nat.mul_one]at this
  simp only[Conv.bytesToString,Sem.run_bind,this,Result.andThen_ok]
  rw[List.forIn_toArray,pV (P:=P) (l:=bs) (fun b s=>by simp)]
  have e:ByteArray.empty.data=#[]:=rfl
  simp[e]
theorem iU.fix{x:Value}{k:Value→Prop}(h:iU H x k):∃v,k v∧iU H x (· =v):=by
 obtain⟨base,n,c,bs,h1,h2,h3,hk⟩:=h;exact⟨_,hk,base,n,c,bs,h1,h2,h3,rfl⟩
def Reads(P:Program)(g:Gh)(o:Oper)(ρ:Operand→Value)(H:Hp)(k:Value→Prop):Prop:=
 ∃v,k v∧∀w,Own g H w→(execOp ρ o).run P w=.ok (.value v) w
theorem Reads.mk{o:Oper}{ρ:Operand→Value}{k:Value→Prop}{s:Sem Value}(he:execOp ρ o=(do pure (.value (←s))))(h:∃v,k v∧∀w,Own g H w→s.run P w=.ok v w):Reads P g o ρ H k:=by
 obtain⟨v,hk,hr⟩:=h
 refine⟨v,hk,fun w hw=>?_⟩
 rw[he]
 simp only[Sem.run_bind,hr w hw,Result.andThen_ok,Sem.run_pure]
theorem dn.reads{o:Oper}{ρ:Operand→Value}{k:Value→Prop}(h:dn P g o ρ H k):Reads P g o ρ H k:=let ⟨v,h1,h2⟩:=h;⟨v,h2,h1⟩
theorem A0{s:Sem Value}{k:Value→Prop}{C:(Value→Prop)→Prop}(EF:∃v,k v∧C (· =v))(hrun:∀(k:Value→Prop),C k→∀w,Own g H w→∃v,s.run P w=.ok v w∧k v):
  ∃v,k v∧∀w,Own g H w→s.run P w=.ok v w:=by
 obtain⟨v,hk,hc⟩:=EF
 refine⟨v,hk,fun w hw=>?_⟩
 obtain⟨u,hr,rfl⟩:=hrun _ hc w hw
 exact hr
theorem aI{t:TypeId}{n:Nat}(h:bR P t=some n):∃i,P.info? t=some i∧i.size=n:=by
 unfold bR at h
 split at h
 ·rename_i i hi;exact⟨i,hi,by simpa using h⟩
 ·simp at h
theorem bK{t:TypeId}{z:Value}(h:dc P t=some z):∃i,P.info? t=some i∧i.zero=some z:=by
 unfold dc at h
 split at h
 ·rename_i i hi;exact⟨i,hi,by simpa using h⟩
 ·simp at h
theorem eA{o:Oper}{ρ:Operand→Value}{k:Value→Prop}(h:rV P g o ρ H k):Reads P g o ρ H k:=by
 obtain⟨dst,op,type,pos,after,guard⟩:=o
 cases op<;>simp only[rV]at h
 case move x=>exact⟨_,h,fun w _=>rfl⟩
 case assign x=>exact⟨_,h,fun w _=>rfl⟩
 case pick c a b=>
  obtain⟨t,hc,hk⟩:=h
  refine⟨_,hk,fun w _=>?_⟩
  cases t<;>simp[execOp,hc,asBool]
 case load t a=>
  split at h
  ·rename_i d n hd hn
   obtain⟨i,hi,hin⟩:=aI hn
   refine Reads.mk (s:=Instr.loadAt t (ρ a)) rfl ?_
   cases ha:bA d<;>simp only[ha,cond_true,cond_false]at h
   ·exact A0 h.fix fun k hk w hw=>hk.run hw hd ha
   ·exact A0 h.fix fun k hk w hw=>hk.run hw hd ha hi hin
  ·exact h.elim
 case nilCheck x=>
  obtain⟨v,hv,hk⟩:=h
  refine⟨v,hk,fun w _=>?_⟩
  unfold C5 at hv
  simp only[execOp]
  split at hv<;>simp only[Option.some.injEq,reduceCtorEq]at hv<;>subst hv<;>simp_all
 case binOp op t x y yt=>
  split at h
  ·rename_i d hd
   split at h
   ·exact h.reads
   ·rename_i Gk
    refine Reads.mk (s:=do eqGuard op t x y (ρ x) (ρ y);binOp op t (ρ x) (ρ y)) rfl ?_
    obtain⟨v,hv,hk⟩:=h
    exact⟨v,hk,fun w _=>by
     obtain⟨u,hr,rfl⟩:=ae.run (P:=P) (k:=(· =v)) ⟨v,hv,rfl⟩ w (ox:=x) (oy:=y) hd rfl
     exact hr⟩
  ·exact h.elim
 case unOp op t x=>
  obtain⟨v,hv,hk⟩:=h
  refine Reads.mk (s:=Op.unary op (ρ x)) rfl ⟨v,hk,fun w _=>?_⟩
  obtain⟨u,hr,rfl⟩:=Un.run (P:=P) (k:=(· =v)) ⟨v,hv,rfl⟩ w
  exact hr
 case convert s d x=>
  split at h
  ·rename_i ds kd hs hd
   obtain⟨j,n,hx,hk⟩:=h
   refine Reads.mk (s:=Go.convert s d (ρ x)) rfl ⟨_,hk,fun w _=>?_⟩
   obtain⟨u,hr,rfl⟩:=bt.run (P:=P) (kd:=kd) (k:=(· =_)) ⟨j,n,hx,rfl⟩ w hs hd rfl
   exact hr
  ·rename_i e hs hd
   split at h
   ·rename_i he
    refine Reads.mk (s:=Go.convert s d (ρ x)) rfl ?_
    have:∀w,(Go.convert s d (ρ x)).run P w=(Conv.bytesToString (ρ x)).run P w:=fun w=>by
     obtain⟨base,n,c,bs,hx,_⟩:=h
     simp only[Go.convert,Sem.run_bind,run_underlying hs,run_underlying hd,Result.andThen_ok,hx,run_underlying he]
    simp only[this]
    exact A0 h.fix fun k hk w hw=>hk.run hw
   ·exact h.reads
  ·exact h.reads
 case index t x i=>
  split at h
  ·rename_i ht
   obtain⟨s,kd,j,b,hx,hi,h0,hb,hk⟩:=h
   refine Reads.mk (s:=Instr.index t (ρ x) (ρ i)) rfl ⟨_,hk,fun w _=>?_⟩
   simp[Instr.index,run_underlying ht,hx,hi,asIntOf,h0,hb]
  ·exact h.reads
 case fieldAddr s x f=>
  split at h<;>try exact h.elim
  rename_i fs hs
  split at h<;>try exact h.elim
  rename_i fl hf
  split at h<;>try exact h.elim
  rename_i m hm
  obtain⟨i,hi,hin⟩:=aI hm
  obtain⟨b,o,hx,hk⟩:=h
  refine Reads.mk (s:=Instr.fieldAt s (ρ x) f) rfl ⟨_,hk,fun w _=>?_⟩
  obtain⟨u,hr,rfl⟩:=aj.run (P:=P) (k:=(· =_)) ⟨b,o,hx,rfl⟩ w hs hf hi (by omega) rfl
  exact hr
 case field s x f=>
  split at h<;>try exact h.elim
  rename_i fs hs
  split at h<;>try exact h.elim
  rename_i fl hf
  split at h<;>try exact h.elim
  rename_i d n hd hn
  obtain⟨i,hi,hin⟩:=aI hn
  refine Reads.mk (s:=Instr.field s (ρ x) f) rfl ?_
  cases ha:bA d<;>simp only[ha,cond_true,cond_false]at h
  ·obtain⟨cs,v,hx,hv,hk⟩:=h
   refine⟨v,hk,fun w _=>?_⟩
   obtain⟨u,hr,rfl⟩:=zP.run (P:=P) (k:=(· =v)) ⟨cs,v,hx,hv,rfl⟩ w hs hf hd ha rfl
   exact hr
  ·obtain⟨cs,hx,hk⟩:=h
   refine⟨_,hk,fun w _=>?_⟩
   obtain⟨u,hr,rfl⟩:=y2.run (P:=P) (k:=(· =_)) ⟨cs,hx,rfl⟩ w hs hf hd ha hi hin rfl
   exact hr
 case indexAddr t x ix=>
  refine Reads.mk (s:=Instr.indexAt t (ρ x) (ρ ix)) rfl ?_
  split at h
  ·rename_i e ht
   split at h<;>try exact h.elim
   rename_i n hn
   obtain⟨i,hi,hin⟩:=aI hn
   obtain⟨b,o,n',c,kd,j,hx,Et,h0,h1,hk⟩:=h
   refine⟨_,hk,fun w _=>?_⟩
   obtain⟨u,hr,rfl⟩:=ah.run (P:=P) (k:=(· =_)) ⟨b,o,n',c,kd,j,hx,Et,h0,h1,rfl⟩ w ht hi hin
   exact hr
  ·rename_i len e ht
   split at h<;>try exact h.elim
   rename_i n hn
   obtain⟨i,hi,hin⟩:=aI hn
   obtain⟨b,o,kd,j,hx,Et,h0,h1,hk⟩:=h
   refine⟨_,hk,fun w _=>?_⟩
   obtain⟨u,hr,rfl⟩:=dy.run (P:=P) (k:=(· =_)) ⟨b,o,kd,j,hx,Et,h0,h1,rfl⟩ w ht hi hin
   exact hr
  ·exact h.elim
 case slice t x lo hi mx=>
  cases mx with
  |some m=>simp only at h;exact h.reads
  |none=>
   simp only at h
   split at h
   ·rename_i e ht
    split at h<;>try exact h.elim
    rename_i n hn
    obtain⟨i,hi',hin⟩:=aI hn
    obtain⟨a,n',c,l,hh,hx,hl,iC,h0,h1,h2,hk⟩:=h
    refine Reads.mk (s:=Instr.sliceAt t (ρ x) (lo.map ρ) (hi.map ρ) none) rfl ⟨_,hk,fun w _=>?_⟩
    obtain⟨u,hr,rfl⟩:=dm.run (P:=P) (k:=(· =_)) ⟨a,n',c,l,hh,hx,hl,iC,h0,h1,h2,rfl⟩ w ht hi' hin
    exact hr
   ·exact h.reads
 case extract t i=>
  obtain⟨vs,v,hx,hv,hk⟩:=h
  refine Reads.mk (s:=Instr.extract (ρ t) i) rfl ⟨v,hk,fun w _=>?_⟩
  obtain⟨u,hr,rfl⟩:=Ext.run (P:=P) (k:=(· =v)) ⟨vs,v,hx,hv,rfl⟩ w
  exact hr
 case lookup t m key ok=>
  split at h<;>try exact h.elim
  rename_i kt e ht
  split at h<;>try exact h.elim
  rename_i kd z si hz
  obtain⟨i,hi,m0⟩:=bK hz
  cases hp:plainKey kd<;>simp only[hp,cond_true,cond_false]at h
  ·cases me:bA kd<;>simp only[me,cond_true,cond_false]at h
   ·exact h.reads
   ·exact Reads.mk (s:=Instr.lookup t (ρ m) (ρ key) ok) rfl (A0 h.fix fun k hk w hw=>hk.run hw ht si me hi m0)
  ·exact Reads.mk (s:=Instr.lookup t (ρ m) (ρ key) ok) rfl (A0 h.fix fun k hk w hw=>hk.run hw ht si hp hi m0)
 case makeFunc fn a b=>
  refine⟨_,h,fun w _=>?_⟩
  simp[execOp,Instr.makeFunc,mapList]
 case build t parts=>
  obtain⟨v,hr,hk⟩:=h
  refine Reads.mk (s:=Instr.build t (parts.map fun(i,x)=>(i,ρ x))) rfl ⟨v,hk,fun w _=>?_⟩
  have:=hr w
  rw[mapList (fun p:Nat×Operand=>(p.1,ρ p.2)) parts]at this
  exact this
 case makeInterface t x=>
  split at h
  ·exact h.elim
  ·rename_i d Ap hd
   refine Reads.mk (s:=Instr.makeInterface t (ρ x)) rfl ⟨_,h,fun w _=>?_⟩
   simp only[Instr.makeInterface,Sem.run_bind,run_underlying hd,Result.andThen_ok]
   cases d<;>first|rfl|exact absurd hd (Ap _)
  ·exact h.elim
 case call c=>
  obtain⟨callee,args,argTypes⟩:=c
  cases callee with
  |value f=>simp only at h
  |invoke r m=>simp only at h
  |builtin b=>
   cases b<;>simp only at h<;>try exact h.reads
   case max=>
    split at h<;>try exact h.reads
    rename_i x y t t' hx ht
    split at h<;>try exact h.reads
    have hx:=oM hx
    have ht:=oM ht
    subst hx;subst ht
    obtain⟨kd,a,b,h1,h2,hk⟩:=h
    refine Reads.mk (s:=Builtin.max_ #[t,t'] type #[ρ x,ρ y]) (by simp[execOp,resolve,invoke,builtin,bind,Sem.bind];rfl) ⟨_,hk,fun w _=>?_⟩
    simp[Builtin.max_,Builtin.max2,h1,h2]
   case min=>
    split at h<;>try exact h.reads
    rename_i x y t t' hx ht
    split at h<;>try exact h.reads
    have hx:=oM hx
    have ht:=oM ht
    subst hx;subst ht
    obtain⟨kd,a,b,h1,h2,hk⟩:=h
    refine Reads.mk (s:=Builtin.min_ #[t,t'] type #[ρ x,ρ y]) (by simp[execOp,resolve,invoke,builtin,bind,Sem.bind];rfl) ⟨_,hk,fun w _=>?_⟩
    simp[Builtin.min_,Builtin.min2,h1,h2]
   split at h<;>try exact h.elim
   rename_i x t hx ht
   have hx:=CQ hx
   have ht:=CQ ht
   subst hx;subst ht
   split at h
   ·rename_i e hd
    refine Reads.mk (s:=Builtin.len_ #[t] type #[ρ x]) (by simp[execOp,resolve,invoke,builtin,bind,Sem.bind];rfl) ?_
    obtain⟨a,n,c,hx,hk⟩:=h
    refine⟨_,hk,fun w _=>?_⟩
    obtain⟨u,hr,rfl⟩:=bM.run (P:=P) (k:=(· =_)) ⟨a,n,c,hx,rfl⟩ w (ty:=type) hd
    exact hr
   ·rename_i e e' hd
    refine Reads.mk (s:=Builtin.len_ #[t] type #[ρ x]) (by simp[execOp,resolve,invoke,builtin,bind,Sem.bind];rfl) ?_
    exact A0 h.fix fun k hk w hw=>hk.run hw hd
   ·rename_i hd
    refine Reads.mk (s:=Builtin.len_ #[t] type #[ρ x]) (by simp[execOp,resolve,invoke,builtin,bind,Sem.bind];rfl) ?_
    obtain⟨s,hx,hk⟩:=h
    exact⟨_,hk,fun w _=>by simp[Builtin.len_,run_underlying hd,hx,goInt]⟩
   ·exact h.reads
 all_goals exact h.reads
def valOf(o:Oper)(ρ:Operand→Value)(v:Value):Prop:=
 match o.op with
 | .move x=>v=ρ x
 | .assign x=>v=ρ x
 | .pick c a b=>∀t,ρ c=.bool t→v=cond t (ρ a) (ρ b)
 |_=>True
theorem mP{o:Oper}{ρ:Operand→Value}{k:Value→Prop}(h:rV P g o ρ H k):∃v,k v∧(∀w,Own g H w→(execOp ρ o).run P w=.ok (.value v) w)∧valOf o ρ v:=by
 obtain⟨dst,op,type,pos,after,guard⟩:=o
 cases op
 case move x=>exact⟨_,h,fun w _=>rfl,rfl⟩
 case assign x=>exact⟨_,h,fun w _=>rfl,rfl⟩
 case pick c a b=>
  obtain⟨t,hc,hk⟩:=h
  refine⟨_,hk,fun w _=>?_,fun t' ht'=>?_⟩
  ·cases t<;>simp[execOp,hc,asBool]
  ·rw[hc]at ht';simp only[Value.bool.injEq]at ht';subst ht';rfl
 all_goals
  obtain⟨v,hk,hr⟩:=eA h
  exact⟨v,hk,hr,trivial⟩
end
end Go.Sx
namespace Go.Sx
open Go
section
variable {P:Program} {g:Gh} {H:Hp} {K:Value→Hp→Prop} {KP:List PanicEntry→Hp→Prop}
def an(P:Program)(t len:Nat)(parts:List (Nat×Value))(H:Hp)(k:Value→Hp→Prop):Prop:=
 ∃cs,(∃e n z,P.underlying t=some (.slice e)∧bR P e=some n∧dc P e=some z∧len*n≤2^24∧
   Instr.fill (fun i=>some (i*n,n)) ((Array.range (len*n)).map (z.cells[· %z.cells.size]!)) parts=some cs∧
   dR H (.cells cs e (0,0)) fun b H'=>k (.slice (some ⟨b,0,none⟩) len len) H')
def xj(P:Program)(g:Gh)(o:Oper)(ρ:Operand→Value)(H:Hp)(K:Value→Hp→Prop)(KP:List PanicEntry→Hp→Prop):Prop:=
 match o.op with
 | .alloc t=>match dc P t with
  |some z=>dR H (.cells z.cells t (0,0)) fun b H'=>K (.pointer (some ⟨b,0,none⟩)) H'
  |none=>False
 | .box t x=>dR H (.cells (ρ x).cells t (0,0)) fun b H'=>K (.pointer (some ⟨b,0,none⟩)) H'
 | .store t a x=>match bR P t with
  |some n=>St n H (ρ a) (ρ x) fun H'=>K undef H'
  |none=>False
 | .buildSlice t len parts=>an P t len (parts.toList.map fun p=>(p.1,ρ p.2)) H K
 | .makeMap _ none=>kM H K
 | .makeSlice t l c=>match P.underlying t with
  |some (.slice e)=>match bR P e,kF P e,dc P e with
   |some n,some b,some z=>da e n b z H (ρ l) (ρ c) K
   |_,_,_=>False
  |_=>False
 | .mapUpdate t m key x=>match P.underlying t with
  |some (.map kt _)=>match P.underlying kt with
   |some kd=>cond (plainKey kd) (aN kd H (ρ m) (ρ key) (ρ x) fun H'=>K undef H') (cond (bA kd) (fk P kt H (ρ m) (ρ key) (ρ x) fun H'=>K undef H') (gM P g o ρ H K KP))
   |none=>False
  |_=>False
 | .insert t m key x=>match P.underlying t with
  |some (.map kt _)=>match P.underlying kt with
   |some kd=>cond (plainKey kd) (aN kd H (ρ m) (ρ key) (ρ x) fun H'=>K undef H') (cond (bA kd) (fk P kt H (ρ m) (ρ key) (ρ x) fun H'=>K undef H') (gM P g o ρ H K KP))
   |none=>False
  |_=>False
 | .range t x=>match P.underlying t with
  |some (.map _ _)=>DM H (ρ x) K
  |_=>gM P g o ρ H K KP
 | .next it false=>C4 H (ρ it) K
 | .entry it=>y3 H (ρ it) fun v=>K v H
 | .call c=>
  match c.callee with
  | .value (.func f)=>cond (aG P f) (aa P g f (c.args.toList.map ρ).toArray H K KP) (gM P g o ρ H K KP)
  | .value f=>bj P g (ρ f) (c.args.toList.map ρ).toArray H K KP
  | .builtin .append=>
   match c.args.toList,c.argTypes.toList with
   | [s,x],[t,t']=>match P.underlying t,P.underlying t' with
    |some (.slice e),some (.slice _)=>match bR P e,kF P e,dc P e with
     |some n,some b,some z=>App P e n b z H (ρ s) (ρ x) K
     |_,_,_=>False
    |_,_=>gM P g o ρ H K KP
   |_,_=>False
  | .builtin .delete=>
   match c.args.toList,c.argTypes.toList with
   | [m,key],[t,_]=>match P.underlying t with
    |some (.map kt _)=>match P.underlying kt with
     |some kd=>cond (plainKey kd) (qc kd H (ρ m) (ρ key) fun H'=>K (.tuple #[]) H') (cond (bA kd) (iz P kt H (ρ m) (ρ key) fun H'=>K (.tuple #[]) H') (gM P g o ρ H K KP))
     |none=>False
    |_=>False
   |_,_=>gM P g o ρ H K KP
  |_=>gM P g o ρ H K KP
 |_=>gM P g o ρ H K KP
theorem fR{t:TypeId}{n:Nat}(h:kF P t=some n):∃i,P.info? t=some i∧i.bytes=n:=by
 unfold kF at h
 split at h
 ·rename_i i hi;exact⟨i,hi,by simpa using h⟩
 ·simp at h
theorem gM.ofValue{o:Oper}{ρ:Operand→Value}{s:Sem Value}(he:execOp ρ o=(do pure (.value (←s))))(h:∀w,Own g H w→∃v w' H',s.run P w=.ok v w'∧Own g H' w'∧K v H'):gM P g o ρ H K KP:=by
 intro w hw
 obtain⟨v,w',H',hr,ho,hk⟩:=h w hw
 rw[he]
 simp only[Sem.run_bind,hr,Result.andThen_ok,Sem.run_pure]
 exact⟨H',ho,hk⟩
theorem gM.jO{o:Oper}{ρ:Operand→Value}{s:Sem Unit}(he:execOp ρ o=(do s;pure .skip))(h:∀w,Own g H w→∃w' H',s.run P w=.ok () w'∧Own g H' w'∧K undef H'):gM P g o ρ H K KP:=by
 intro w hw
 obtain⟨w',H',hr,ho,hk⟩:=h w hw
 rw[he]
 simp only[Sem.run_bind,hr,Result.andThen_ok,Sem.run_pure]
 exact⟨H',ho,hk⟩
theorem cq{f:FuncId}(h:aG P f=true)(args:Array Value)(w:World):(callFunc f args).run P w=.ok (.enter f args) w:=by
 unfold aG at h
 split at h
 ·simp at h
 ·rename_i fn hf
  simp only[Bool.and_eq_true,Bool.not_eq_true']at h
  obtain⟨h1,h2⟩:=h
  have h3:fn.body.isNone=false:=by cases hb:fn.body<;>simp_all
  simp only[callFunc,Sem.run_bind,run_program,Result.andThen_ok,hf,show(fn.name== "runtime.NumGoroutine")=false from h1,h3,Bool.false_eq_true,if_false]
  rfl
theorem bj.op{o:Oper}{c:Call}{ρ:Operand→Value}{x:Operand}(ho:o.op=.call c)(hc:c.callee=.value x)(h:bj P g (ρ x) (c.args.toList.map ρ).toArray H K KP):gM P g o ρ H K KP:=by
 obtain⟨f,first,captured,hf,dF,sj⟩:=h
 rw[mapList]at sj
 intro w hw
 have hr:(execOp ρ o).run P w=.ok (.enter f (first++c.args.map ρ++captured)) w:=by
  simp only[execOp,ho,resolve,hc,Deferred.ofValue,hf,invoke]
  show(callFunc f (first++c.args.map ρ++captured)).run P w=_
  exact cq dF _ w
 rw[hr]
 exact sj w hw
theorem jN{o:Oper}{ρ:Operand→Value}(hρ:∀f,ρ (.func f)=.func (.func f) #[] #[])(h:xj P g o ρ H K KP):gM P g o ρ H K KP:=by
 unfold xj at h
 split at h
 case h_1 t hop=>
  split at h
  ·rename_i z hz
   obtain⟨i,hi,m0⟩:=bK hz
   refine gM.ofValue (s:=Instr.alloc t true (.tuple #[])) (by simp only[execOp,hop]) fun w hw=>⟨_,_,_,?_,hw.alloc _,h _ hw.fresh⟩
   simp[Instr.alloc,cy hi m0,newVar,newRow]
  ·exact h.elim
 case h_2 t x hop=>
  refine gM.ofValue (s:=Instr.box t (ρ x)) (by simp only[execOp,hop]) fun w hw=>⟨_,_,_,?_,hw.alloc _,h _ hw.fresh⟩
  simp[Instr.box,newVar,newRow]
 case h_3 t a x hop=>
  split at h
  ·rename_i n hn
   obtain⟨i,hi,hin⟩:=aI hn
   exact gM.jO (s:=Instr.storeAt t (ρ a) (ρ x)) (by simp only[execOp,hop]) fun w hw=>h.run hw hi hin
  ·exact h.elim
 case h_4 t len parts hop=>
  obtain⟨cs,e,n,z,ht,hn,hz,hl,hf,hk⟩:=h
  obtain⟨i,hi,hin⟩:=aI hn
  obtain⟨i',hi',m0⟩:=bK hz
  have:i'=i:=Option.some.inj (hi'.symm.trans hi)
  subst this
  subst hin
  refine gM.ofValue (s:=Instr.buildSlice t len (parts.map fun(i,x)=>(i,ρ x))) (by simp only[execOp,hop]) fun w hw=>⟨_,_,_,?_,hw.alloc _,hk _ hw.fresh⟩
  have hl':¬(len*i'.size>2^24):=by omega
  have BM:(parts.map fun(x:Nat×Operand)=>(x.1,ρ x.2)).toList=parts.toList.map fun p=>(p.1,ρ p.2):=by rw[Array.toList_map]
  by_cases h0:len*i'.size=0
  ·simp only[Instr.buildSlice,Sem.run_bind,run_underlying ht,Result.andThen_ok,run_sizeOf hi,hl',if_false,h0,if_true,Sem.run_pure]
   rw[h0]at hf
   have El:Array.range 0=#[]:=rfl
   simp only[El,Array.map_empty,List.map_toArray,List.map_nil]at hf⊢
   rw[BM,hf]
   simp[newRow]
  ·simp only[Instr.buildSlice,Sem.run_bind,run_underlying ht,Result.andThen_ok,run_sizeOf hi,hl',if_false,h0,cy hi m0,Sem.run_pure]
   simp[hf,newRow]
 case h_5 t hop=>
  refine gM.ofValue (s:=Instr.makeMap t none) (by simp only[execOp,hop];rfl) fun w hw=>⟨_,_,_,?_,hw.alloc _,h _ hw.fresh⟩
  simp[Instr.makeMap]
 case h_6 t l c hop=>
  split at h<;>try exact h.elim
  rename_i e ht
  split at h<;>try exact h.elim
  rename_i n b z hn hb hz
  obtain⟨i,hi,hin⟩:=aI hn
  obtain⟨i',hi',m0⟩:=bK hz
  obtain⟨i2,xm,j8⟩:=fR hb
  have e1:i'=i:=Option.some.inj (hi'.symm.trans hi)
  have e2:i2=i:=Option.some.inj (xm.symm.trans hi)
  subst e1;subst e2
  exact gM.ofValue (s:=Instr.makeSlice t (ρ l) (ρ c)) (by simp only[execOp,hop]) fun w hw=>h.run hw ht hi m0 hin j8
 case h_7 t m key x hop=>
  split at h<;>try exact h.elim
  rename_i kt e ht
  split at h<;>try exact h.elim
  rename_i kd si
  cases hp:plainKey kd<;>simp only[hp,cond_true,cond_false]at h
  ·cases me:bA kd<;>simp only[me,cond_true,cond_false]at h
   ·exact h
   ·exact gM.jO (s:=Instr.mapUpdate t (ρ m) (ρ key) (ρ x)) (by simp only[execOp,hop]) fun w hw=>h.run hw ht si me
  ·exact gM.jO (s:=Instr.mapUpdate t (ρ m) (ρ key) (ρ x)) (by simp only[execOp,hop]) fun w hw=>h.run hw ht si hp
 case h_8 t m key x hop=>
  split at h<;>try exact h.elim
  rename_i kt e ht
  split at h<;>try exact h.elim
  rename_i kd si
  cases hp:plainKey kd<;>simp only[hp,cond_true,cond_false]at h
  ·cases me:bA kd<;>simp only[me,cond_true,cond_false]at h
   ·exact h
   ·exact gM.jO (s:=Instr.mapUpdate t (ρ m) (ρ key) (ρ x)) (by simp only[execOp,hop]) fun w hw=>h.run hw ht si me
  ·exact gM.jO (s:=Instr.mapUpdate t (ρ m) (ρ key) (ρ x)) (by simp only[execOp,hop]) fun w hw=>h.run hw ht si hp
 case h_9 t x hop=>
  split at h
  ·rename_i kt e ht
   exact gM.ofValue (s:=Instr.range t (ρ x)) (by simp only[execOp,hop]) fun w hw=>h.run hw ht
  ·exact h
 case h_10 it hop=>
  exact gM.ofValue (s:=Instr.next (ρ it) false o.type) (by simp only[execOp,hop]) fun w hw=>h.run hw
 case h_11 it hop=>
  exact gM.ofValue (s:=Instr.entry (ρ it)) (by simp only[execOp,hop]) fun w hw=>let ⟨v,hr,hk⟩:=h.run hw;⟨v,w,H,hr,hw,hk⟩
 case h_12 c hop=>
  split at h
  ·rename_i f hc
   cases dF:aG P f<;>simp only[dF,cond_true,cond_false]at h
   ·exact h
   ·rw[mapList]at h
    intro w hw
    have hr:(execOp ρ o).run P w=.ok (.enter f (c.args.map ρ)) w:=by
     simp only[execOp,hop,resolve,hc,Deferred.ofValue,hρ,invoke]
     show(callFunc f ((#[]++c.args.map ρ)++ #[])).run P w=_
     rw[Array.empty_append,Array.append_empty]
     exact cq dF _ w
    rw[hr]
    exact h w hw
  ·rename_i x _ hc
   exact bj.op hop hc h
  ·rename_i hc
   split at h<;>try exact h.elim
   rename_i s x t t' hx ht
   have hx:=oM hx
   have ht:=oM ht
   split at h
   ·rename_i e e' hd dj
    split at h<;>try exact h.elim
    rename_i n b z hn hb hz
    obtain⟨i,hi,hin⟩:=aI hn
    obtain⟨i',hi',m0⟩:=bK hz
    obtain⟨i2,xm,j8⟩:=fR hb
    have e1:i'=i:=Option.some.inj (hi'.symm.trans hi)
    have e2:i2=i:=Option.some.inj (xm.symm.trans hi)
    subst e1;subst e2
    refine gM.ofValue (s:=Builtin.append_ #[t,t'] o.type #[ρ s,ρ x]) ?_ fun w hw=>h.run hw hd ⟨_,dj⟩ hi m0 hin j8
    simp only[execOp,hop,resolve,hc,hx,ht,invoke,builtin]
    simp[bind,Sem.bind];rfl
   ·exact h
  ·rename_i hc
   split at h
   ·rename_i m key t t' hx ht
    have hx:=oM hx
    have ht:=oM ht
    split at h<;>try exact h.elim
    rename_i kt e hd
    split at h<;>try exact h.elim
    rename_i kd si
    cases hp:plainKey kd<;>simp only[hp,cond_true,cond_false]at h
    ·cases me:bA kd<;>simp only[me,cond_true,cond_false]at h
     ·exact h
     ·refine gM.ofValue (s:=Builtin.delete_ #[t,t'] o.type #[ρ m,ρ key]) ?_ fun w hw=>?_
      ·simp only[execOp,hop,resolve,hc,hx,ht,invoke,builtin]
       simp[bind,Sem.bind];rfl
      ·obtain⟨w',H',hr,ho,hk⟩:=h.run (P:=P) hw (as:=#[t,t']) (ty:=o.type) rfl hd si me
       exact⟨_,w',H',hr,ho,hk⟩
    ·refine gM.ofValue (s:=Builtin.delete_ #[t,t'] o.type #[ρ m,ρ key]) ?_ fun w hw=>?_
     ·simp only[execOp,hop,resolve,hc,hx,ht,invoke,builtin]
      simp[bind,Sem.bind];rfl
     ·obtain⟨w',H',hr,ho,hk⟩:=h.run (P:=P) hw (as:=#[t,t']) (ty:=o.type) rfl hd si hp
      exact⟨_,w',H',hr,ho,hk⟩
   ·exact h
  ·exact h
 all_goals exact h
end
end Go.Sx
namespace Go.Sx
open Go
section
variable {P:Program} {g:Gh} {ds:List Deferred}
def j3:Op→Bool
 | .move _| .assign _| .pick .. | .load .. | .nilCheck _| .binOp .. | .unOp .. | .convert .. | .fieldAddr .. | .field .. | .indexAddr .. | .index .. | .slice .. | .extract .. | .lookup .. | .makeFunc .. | .build .. | .makeInterface ..
 | .typeAssert .. =>true
 | .call c=>match c.callee with
  | .builtin .len| .builtin .cap| .builtin .min| .builtin .max=>true
  |_=>false
 |_=>false
def zR(P:Program)(g:Gh)(f:FuncId)(args:Array Value)(H:Hp)(k:Value→Prop):Prop:=
 ∃v,aV P g f args H (fun e H'=>e=.returned v∧H'=H)∧k v
def D0(P:Program)(g:Gh)(o:Oper)(ρ:Operand→Value)(H:Hp)(k:Value→Prop):Prop:=
 match o.op with
 | .call c=>match c.callee with
  | .value (.func f)=>cond (aG P f) (zR P g f (c.args.toList.map ρ).toArray H k) False
  | .value x=>∃f first captured,ρ x=.func (.func f) first captured∧aG P f=true∧zR P g f (first++(c.args.toList.map ρ).toArray++captured) H k
  |_=>False
 |_=>False
def aW:Option (Nat×Bool)→Option (Nat×Bool)→Bool
 |none,none=>true
 |some (i,a),some (j,b)=>Nat.beq i j&& (a==b)
 |_,_=>false
theorem dz{x y:Option (Nat×Bool)}(h:aW x y=true):x=y:=by
 cases x with
 |none=>cases y<;>simp_all[aW]
 |some a=>
  obtain⟨i,a⟩:=a
  cases y with
  |none=>simp[aW]at h
  |some b=>
   obtain⟨j,b⟩:=b
   simp only[aW,Bool.and_eq_true,beq_iff_eq]at h
   rw[Nat.eq_of_beq_eq_true h.1,h.2]
def cX(cur:Option (Nat×Bool)):List Oper→List Oper
 | []=>[]
 |o::r=>cond (aW o.guard cur) [] (o::cX cur r)
def dx(cur:Option (Nat×Bool)):List Oper→List Oper
 | []=>[]
 |o::r=>cond (aW o.guard cur) (o::r) (dx cur r)
theorem iW(cur:Option (Nat×Bool))(l:List Oper):cX cur l++dx cur l=l:=by
 induction l with
 |nil=>rfl
 |cons o r ih=>simp only[cX,dx];cases aW o.guard cur<;>simp[ih]
def iX:List Oper→Fr→Fr
 | [],fr=>fr
 |o::r,fr=>iX r (aP fr o.dst undef)
def aM:List Oper→Nat→Bool
 | [],_=>false
 |o::r,s=>(match o.dst with|some d=>Nat.beq s d|none=>false)||aM r s
def dN(n:Nat):List Oper→Bool
 | []=>true
 |o::r=>bS n o.dst&&dN n r
def m7(G:List Oper)(gs fr:Fr):Fr:=fun s=>cond (aM G s) (gs s) (fr s)
def gF(p:Oper)(fr:Fr):Value:=
 match p.op with
 | .pick c a b=>match ev fr c with
  | .bool t=>cond t (ev fr a) (ev fr b)
  |_=>undef
 |_=>undef
def iN(p:Oper):Bool:=match p.op with| .pick .. =>true|_=>false
def bZ(ops:Array Oper)(j:Nat):Option Nat:=match ops[j]? with|some oj=>oj.dst|none=>none
def fE(ops:Array Oper)(s:Nat)(want:Bool):List Nat→List Oper→Bool
 |_,[]=>true
 |seen,o::r=>
  (match o.guard with
  |none=>false
  |some (j,w)=>match bZ ops j with
   |none=>false
   |some t=>(Nat.beq t s&& (w==want))||seen.any (Nat.beq t)) &&
  fE ops s want (match o.dst with|some d=>d::seen|none=>seen) r
def cW(v:Value)(want:Bool)(inner els k:Bool→Prop):Prop:=∃a t:Bool,v=.bool a∧(a=want→inner t)∧(a= !want→els t)∧k t
def Split(v:Value)(want:Bool)(k1 k2:Prop):Prop:=∃a:Bool,v=.bool a∧(a=want→k1)∧(a= !want→k2)
def eG:List (Nat×Bool)→Nat→Option Bool
 | [],_=>none
 |(t,b)::r,s=>cond (Nat.beq t s) (some b) (eG r s)
def fp:List (Nat×Bool)→Option Nat→List (Nat×Bool)
 |kn,none=>kn
 | [],some _=>[]
 |(t,b)::r,some d=>cond (Nat.beq t d) (fp r (some d)) ((t,b)::fp r (some d))
def fc:List (Nat×Bool)→List Oper→List (Nat×Bool)
 |kn,[]=>kn
 |kn,o::r=>fc (fp kn o.dst) r
def g7(kn:List (Nat×Bool)):Operand→Option Bool
 | .const (.bool b)=>some b
 | .tmp t=>eG kn t
 |_=>none
def Ai(kn:List (Nat×Bool))(o:Oper):Option Bool:=
 match o.op with
 | .move x=>g7 kn x
 | .assign x=>g7 kn x
 | .pick c a b=>match g7 kn c with
  |some true=>g7 kn a
  |some false=>g7 kn b
  |none=>none
 |_=>none
def Ah(kn:List (Nat×Bool))(o:Oper):List (Nat×Bool):=
 match Ai kn o,o.dst with
 |some b,some d=>(d,b)::fp kn (some d)
 |_,d=>fp kn d
def dr(kn:List (Nat×Bool))(fr:Fr):Prop:=∀s b,eG kn s=some b→fr s=.bool b
theorem dr.nil(fr:Fr):dr [] fr:=fun s b h=>by simp[eG]at h
theorem l7{kn:List (Nat×Bool)}{d s:Nat}{b:Bool}(h:eG (fp kn (some d)) s=some b):s≠d∧eG kn s=some b:=by
 induction kn with
 |nil=>simp[fp,eG]at h
 |cons x r ih=>
  obtain⟨t,c⟩:=x
  simp only[fp]at h
  cases hb:Nat.beq t d<;>simp only[hb,cond_true,cond_false]at h
  ·simp only[eG]at h⊢
   cases hs:Nat.beq t s<;>simp only[hs,cond_true,cond_false]at h⊢
   ·exact ih h
   ·refine⟨fun e=>?_,h⟩
    have:=Nat.eq_of_beq_eq_true hs
    subst this;subst e;simp at hb
  ·have h':=ih h
   refine⟨h'.1,?_⟩
   simp only[eG]
   have:=Nat.eq_of_beq_eq_true hb
   subst this
   cases hs:Nat.beq t s
   ·exact h'.2
   ·exact absurd (Nat.eq_of_beq_eq_true hs).symm h'.1
theorem dr.del{kn:List (Nat×Bool)}{fr:Fr}(h:dr kn fr)(d:Option Nat)(v:Value):dr (fp kn d) (aP fr d v):=by
 cases d with
 |none=>cases kn<;>exact h
 |some d=>
  intro s b hs
  obtain⟨h1,h2⟩:=l7 hs
  simp only[aP]
  cases hb:Nat.beq s d
  ·exact h s b h2
  ·exact absurd (Nat.eq_of_beq_eq_true hb) h1
theorem dr.put{kn:List (Nat×Bool)}{fr:Fr}(h:dr kn fr){s:Nat}{b:Bool}(hs:fr s=.bool b):dr ((s,b)::kn) fr:=by
 intro t c ht
 simp only[eG]at ht
 cases hb:Nat.beq s t<;>simp only[hb,cond_true,cond_false]at ht
 ·exact h t c ht
 ·have:=Nat.eq_of_beq_eq_true hb;subst this;simp only[Option.some.injEq]at ht;subst ht;exact hs
theorem eF{kn:List (Nat×Bool)}{fr:Fr}(h:dr kn fr){x:Operand}{b:Bool}(hx:g7 kn x=some b):ev fr x=.bool b:=by
 cases x with
 |tmp t=>exact h t b hx
 |const v=>cases v<;>simp[g7]at hx;subst hx;rfl
 |global g=>simp[g7]at hx
 |func f=>simp[g7]at hx
theorem yl{kn:List (Nat×Bool)}{fr:Fr}(h:dr kn fr){o:Oper}{v:Value}(hv:valOf o (ev fr) v){b:Bool}(hb:Ai kn o=some b):v=.bool b:=by
 unfold Ai at hb
 unfold valOf at hv
 split at hb
 ·rename_i x hop;rw[hop]at hv;exact hv.trans (eF h hb)
 ·rename_i x hop;rw[hop]at hv;exact hv.trans (eF h hb)
 ·rename_i c a b' hop
  rw[hop]at hv
  split at hb
  ·rename_i hc;rw[hv _ (eF h hc)];exact eF h hb
  ·rename_i hc;rw[hv _ (eF h hc)];exact eF h hb
  ·simp at hb
 ·simp at hb
theorem dr.up{kn:List (Nat×Bool)}{fr:Fr}(h:dr kn fr){o:Oper}{v:Value}(hv:valOf o (ev fr) v):dr (Ah kn o) (aP fr o.dst v):=by
 unfold Ah
 split
 ·rename_i b d hb hd
  rw[hd]
  exact(h.del (some d) v).put (by simp[aP,yl h hv hb])
 ·exact h.del _ _
theorem dr.CE{kn:List (Nat×Bool)}{fr fr':Fr}:∀(l:List Oper),dr kn fr→(∀s,aM l s=false→fr' s=fr s)→dr (fc kn l) fr':=by
 intro l
 have key:∀(l:List Oper) (kn:List (Nat×Bool)) (s:Nat) (b:Bool),eG (fc kn l) s=some b→aM l s=false∧eG kn s=some b:=by
  intro l
  induction l with
  |nil=>intro kn s b h;exact⟨rfl,h⟩
  |cons o r ih=>
   intro kn s b h
   simp only[fc]at h
   obtain⟨h1,h2⟩:=ih _ s b h
   simp only[aM,h1,Bool.or_false]
   cases hd:o.dst with
   |none=>rw[hd]at h2;exact⟨rfl,by cases kn<;>exact h2⟩
   |some d=>
    rw[hd]at h2
    obtain⟨h3,h4⟩:=l7 h2
    refine⟨?_,h4⟩
    cases hb:Nat.beq s d
    ·exact hb
    ·exact absurd (Nat.eq_of_beq_eq_true hb) h3
 intro h ho s b hs
 obtain⟨h1,h2⟩:=key l kn s b hs
 rw[ho s h1];exact h s b h2
def ca(P:Program)(g:Gh)(n:Nat)(ops:Array Oper)(gq:Bool):Nat→Bool→Option (Nat×Bool)→List (Nat×Bool)→List Oper→Fr→Hp→(List (Nat×Bool)→Fr→Hp→Prop)→(List PanicEntry→Hp→Prop)→Prop
 |0,_,_,_,_,_,_,_,_=>False
 |_+1,_,_,kn,[],fr,H,K,_=>K kn fr H
 |f+1,q,cur,kn,o::r,fr,H,K,KP=>
  cond (aW o.guard cur)
   (cond (bS n o.dst)
    (cond (j3 o.op) (rV P g o (ev fr) H fun v=>ca P g n ops gq f q cur (Ah kn o) r (aP fr o.dst v) H K KP)
     (cond q (D0 P g o (ev fr) H fun v=>ca P g n ops gq f q cur (fp kn o.dst) r (aP fr o.dst v) H K KP)
      (xj P g o (ev fr) H (fun v H'=>ca P g n ops gq f q cur (fp kn o.dst) r (aP fr o.dst v) H' K KP) KP))) False)
   (match o.guard with
   |none=>False
   |some (j,want)=>
    match bZ ops j with
    |none=>False
    |some s=>
     cond (bS n (some s) &&dN n (cX cur (o::r)) && !aM (cX cur (o::r)) s&&fE ops s want [] (cX cur (o::r)))
     (match eG kn s with
     |some b=>cond (b==want)
       (ca P g n ops gq f q o.guard kn (cX cur (o::r)) fr H (fun gQ fr' H'=>ca P g n ops gq f q cur gQ (dx cur (o::r)) fr' H' K KP) KP)
       (ca P g n ops gq f q cur (fc kn (cX cur (o::r))) (dx cur (o::r)) (iX (cX cur (o::r)) fr) H K KP)
     |none=>
     cond (q||gq)
      (match dx cur (o::r)with
      | []=>False
      |p::r'=>
       cond (iN p&&bS n p.dst)
       (cW (fr s) want
        (fun t=>ca P g n ops gq f true o.guard ((s,want)::kn) (cX cur (o::r)) (aP fr (some s) (.bool want)) H (fun _ fr' H'=>H'=H∧gF p fr'=.bool t) (fun _ _=>False))
        (fun t=>gF p (iX (cX cur (o::r)) (aP fr (some s) (.bool !want)))=.bool t)
        (fun t=>∀gs,ca P g n ops gq f q cur (fp (fc kn (cX cur (o::r))) p.dst) r' (aP (m7 (cX cur (o::r)) gs fr) p.dst (.bool t)) H K KP)) False)
      (Split (fr s) want
       (ca P g n ops gq f q o.guard ((s,want)::kn) (cX cur (o::r)) (aP fr (some s) (.bool want)) H (fun gQ fr' H'=>ca P g n ops gq f q cur gQ (dx cur (o::r)) fr' H' K KP) KP)
       (ca P g n ops gq f q cur ((s, !want)::fc kn (cX cur (o::r))) (dx cur (o::r)) (iX (cX cur (o::r)) (aP fr (some s) (.bool !want))) H K KP))) False)
theorem eu{fr:Fr}{s:Nat}{v:Value}(h:fr s=v):aP fr (some s) v=fr:=by
 funext x
 simp only[aP]
 cases hb:Nat.beq x s
 ·rfl
 ·have:=Nat.eq_of_beq_eq_true hb;subst this;simp[h]
theorem cD{fr:Fr}{d:Option Nat}{v:Value}{s:Nat}(h:aM [({(default:Oper)with dst:=d})] s=false):aP fr d v s=fr s:=by
 cases d with
 |none=>rfl
 |some d=>simp only[aM,Bool.or_false]at h;simp only[aP,h,cond_false]
theorem bI{o:Oper}{r:List Oper}{s:Nat}:aM (o::r) s=(aM [({(default:Oper)with dst:=o.dst})] s||aM r s):=by
 simp[aM]
theorem aR{a b:List Oper}{s:Nat}:aM (a++b) s=(aM a s||aM b s):=by
 induction a with
 |nil=>simp[aM]
 |cons o r ih=>simp only[List.cons_append,aM,ih,Bool.or_assoc]
def bX(l:List Oper)(fr fr':Fr):Prop:=∀s,aM l s=false→fr' s=fr s
def eO(ops:Array Oper)(cur:Option (Nat×Bool))(l:List Oper)(fr:Fr):Prop:=
 match cur with
 |none=>True
 |some (j,want)=>∃s,bZ ops j=some s∧fr s=.bool want∧aM l s=false
theorem eO.tail{ops:Array Oper}{cur:Option (Nat×Bool)}{o:Oper}{r:List Oper}{fr fr':Fr}(h:eO ops cur (o::r) fr)(he:∀s,aM [({(default:Oper)with dst:=o.dst})] s=false→fr' s=fr s):eO ops cur r fr':=by
 unfold eO at*
 split
 ·trivial
 ·obtain⟨s,h1,h2,h3⟩:=h
  rw[bI,Bool.or_eq_false_iff]at h3
  exact⟨s,h1,(he s h3.1).trans h2,h3.2⟩
theorem eR{n:Nat}{ops:Array Oper}{a:Act}{fr:Fr}(h:aZ ds n a fr){j s:Nat}(hs:bZ ops j=some s):yielded ops a.tmps j=match fr s with| .bool b=>some b|_=>none:=by
 unfold bZ at hs
 split at hs
 ·rename_i oj hj
  have hg:=h.get s
  rw[Array.getD_eq_getD_getElem?]at hg
  simp only[yielded,hj,Option.bind_some,hs]
  cases ht:a.tmps[s]? with
  |none=>rw[ht]at hg;simp only[Option.getD_none]at hg;rw[←hg];rfl
  |some v=>rw[ht]at hg;simp only[Option.getD_some]at hg;rw[←hg];cases v<;>rfl
 ·simp at hs
theorem eO.wanted{n:Nat}{ops:Array Oper}{cur:Option (Nat×Bool)}{l:List Oper}{fr:Fr}(h:eO ops cur l fr){o:Oper}(ho:o.guard=cur){a:Act}(ha:aZ ds n a fr):Region.wanted o (yielded ops a.tmps)=true:=by
 unfold eO at h
 unfold Region.wanted
 rw[ho]
 split at h
 ·rfl
 ·obtain⟨s,h1,h2,_⟩:=h
  simp only[eR ha h1,h2,beq_self_eq_true]
theorem gE{p:Oper}{fr:Fr}{t:Bool}(hp:iN p=true)(h:gF p fr=.bool t)(w:World):(execOp (ev fr) p).run P w=.ok (.value (.bool t)) w:=by
 unfold iN at hp
 split at hp<;>try (simp at hp;done)
 rename_i c a b hop
 simp only[gF,hop]at h
 split at h
 ·rename_i t' hc
  simp only[execOp,hop,hc,asBool]
  cases t'<;>simp only[cond_true,cond_false]at h<;>simp[h]
 ·simp[undef]at h
theorem fV{n:Nat}{ops:Array Oper}{Q:Exit→Act→World→Prop}{s:Nat}{want:Bool}{w:World}{rest:List Oper}:∀(l:List Oper) (seen:List Nat) (fr:Fr) (a:Act),dN n l=true→aM l s=false→fE ops s want seen l=true→
  fr s=.bool (!want)→(∀t∈seen,fr t=undef)→aZ ds n a fr→(∀a',aZ ds n a' (iX l fr)→wpList P ops Q rest a' w)→wpList P ops Q (l++rest) a w
 | [],_,fr,a,_,_,_,_,_,ha,hk=>hk a ha
 |o::r,seen,fr,a,hd,hi,hs,hf,j5,ha,hk=>by
  simp only[dN,Bool.and_eq_true]at hd
  rw[bI,Bool.or_eq_false_iff]at hi
  simp only[fE,Bool.and_eq_true]at hs
  obtain⟨tg,n9⟩:=hs
  have BQ:Region.wanted o (yielded ops a.tmps)=false:=by
   unfold Region.wanted
   split at tg
   ·simp at tg
   ·rename_i j w' hg
    rw[hg]
    split at tg
    ·simp at tg
    ·rename_i t ht
     simp only[eR ha ht]
     simp only[Bool.or_eq_true,Bool.and_eq_true,beq_iff_eq]at tg
     rcases tg with⟨h1,rfl⟩|h1
     ·have:=Nat.eq_of_beq_eq_true h1;subst this
      rw[hf];cases w'<;>rfl
     ·obtain⟨u,hu,hb⟩:=List.any_eq_true.1 h1
      have:=Nat.eq_of_beq_eq_true hb;subst this
      rw[j5 _ hu];rfl
  simp only[List.cons_append,wpList,BQ,Bool.false_eq_true,if_false]
  refine fV r _ (aP fr o.dst undef) _ hd.2 hi.2 n9 ?_ ?_ (ha.put hd.1 undef) (fun a' h'=>hk a' h')
  ·rw[cD hi.1,hf]
  ·intro t ht
   cases vZ:o.dst with
   |none=>rw[vZ]at ht;exact j5 t ht
   |some d=>
    rw[vZ]at ht
    simp only[aP]
    cases hb:Nat.beq t d
    ·simp only[cond_false]
     rcases List.mem_cons.1 ht with rfl|ht
     ·simp at hb
     ·exact j5 t ht
    ·rfl
theorem gC{n:Nat}{ops:Array Oper}{C:World→Prop}{Q:Act→Prop}{s:Nat}{want:Bool}{rest:List Oper}:∀(l:List Oper) (seen:List Nat) (fr:Fr) (a:Act),dN n l=true→aM l s=false→fE ops s want seen l=true→
  fr s=.bool (!want)→(∀t∈seen,fr t=undef)→aZ ds n a fr→(∀a',aZ ds n a' (iX l fr)→wpQuiet P ops C Q rest a')→wpQuiet P ops C Q (l++rest) a
 | [],_,fr,a,_,_,_,_,_,ha,hk=>hk a ha
 |o::r,seen,fr,a,hd,hi,hs,hf,j5,ha,hk=>by
  simp only[dN,Bool.and_eq_true]at hd
  rw[bI,Bool.or_eq_false_iff]at hi
  simp only[fE,Bool.and_eq_true]at hs
  obtain⟨tg,n9⟩:=hs
  have BQ:Region.wanted o (yielded ops a.tmps)=false:=by
   unfold Region.wanted
   split at tg
   ·simp at tg
   ·rename_i j w' hg
    rw[hg]
    split at tg
    ·simp at tg
    ·rename_i t ht
     simp only[eR ha ht]
     simp only[Bool.or_eq_true,Bool.and_eq_true,beq_iff_eq]at tg
     rcases tg with⟨h1,rfl⟩|h1
     ·have:=Nat.eq_of_beq_eq_true h1;subst this
      rw[hf];cases w'<;>rfl
     ·obtain⟨u,hu,hb⟩:=List.any_eq_true.1 h1
      have:=Nat.eq_of_beq_eq_true hb;subst this
      rw[j5 _ hu];rfl
  simp only[List.cons_append,wpQuiet,BQ,Bool.false_eq_true,if_false]
  refine gC r _ (aP fr o.dst undef) _ hd.2 hi.2 n9 ?_ ?_ (ha.put hd.1 undef) (fun a' h'=>hk a' h')
  ·rw[cD hi.1,hf]
  ·intro t ht
   cases vZ:o.dst with
   |none=>rw[vZ]at ht;exact j5 t ht
   |some d=>
    rw[vZ]at ht
    simp only[aP]
    cases hb:Nat.beq t d
    ·simp only[cond_false]
     rcases List.mem_cons.1 ht with rfl|ht
     ·simp at hb
     ·exact j5 t ht
    ·rfl
theorem bD:∀(l:List Oper) (fr:Fr),bX l fr (iX l fr)
 | [],fr=>fun s _=>rfl
 |o::r,fr=>fun s hs=>by
  rw[bI,Bool.or_eq_false_iff]at hs
  rw[iX,bD r _ s hs.2,cD hs.1]
end
end Go.Sx
namespace Go.Sx
open Go
section
variable {P:Program} {g:Gh} {ds:List Deferred}
theorem gh(fr:Fr):∀f,ev fr (.func f)=.func (.func f) #[] #[]:=fun _=>rfl
theorem rU{o:Oper}{fr:Fr}{H:Hp}{k:Value→Prop}(h:D0 P g o (ev fr) H k):
  ∃v f args,(∀w,(execOp (ev fr) o).run P w=.ok (.enter f args) w)∧aV P g f args H (fun e H'=>e=.returned v∧H'=H)∧k v:=by
 unfold D0 at h
 split at h<;>try exact h.elim
 rename_i c hop
 split at h<;>try exact h.elim
 ·rename_i f hc
  cases dF:aG P f<;>simp only[dF,cond_true,cond_false]at h
  obtain⟨v,hs,hk⟩:=h
  rw[mapList]at hs
  refine⟨v,f,_,fun w=>?_,hs,hk⟩
  simp only[execOp,hop,resolve,hc,Deferred.ofValue,gh,invoke]
  show(callFunc f ((#[]++c.args.map (ev fr))++ #[])).run P w=_
  rw[Array.empty_append,Array.append_empty]
  exact cq dF _ w
 ·rename_i x _ hc
  obtain⟨f,first,captured,hf,dF,v,hs,hk⟩:=h
  rw[mapList]at hs
  refine⟨v,f,_,fun w=>?_,hs,hk⟩
  simp only[execOp,hop,resolve,hc,Deferred.ofValue,hf,invoke]
  show(callFunc f (first++c.args.map (ev fr)++captured)).run P w=_
  exact cq dF _ w
theorem iB.upon{o:Oper}{a:Act}{K:Value→Hp→Prop}{KP:List PanicEntry→Hp→Prop}{next:Act→World→Prop}{Q:Exit→Act→World→Prop}{r:Result Next}
 (h:iB P g K KP r)(hn:∀v H' w',Own g H' w'→K v H'→next (a.put o.dst v) w')(hp:∀ch H' w',Own g H' w'→KP ch H'→Q (.panic ch) a w'):o.upon P a next Q r:=by
 cases r with
 |ok n w'=>
  cases n<;>simp only[iB]at h<;>simp only[Oper.upon]
  case value v=>obtain⟨H',ho,hk⟩:=h;exact hn _ _ _ ho hk
  case skip=>obtain⟨H',ho,hk⟩:=h;exact hn _ _ _ ho hk
  case enter f args=>
   refine h.mono fun e w'' ⟨H',ho,hk⟩=>?_
   cases e with
   |returned v=>exact hn _ _ _ ho hk
   |panicked ch=>exact hp _ _ _ ho hk
   |outgrown=>exact hk.elim
 |halt x w'=>
  cases x<;>simp only[iB]at h
  case panic v=>obtain⟨H',ho,hk⟩:=h;exact hp _ _ _ ho hk
theorem bX.refl(l:List Oper)(fr:Fr):bX l fr fr:=fun _ _=>rfl
theorem bX.cons{o:Oper}{r:List Oper}{fr fr':Fr}{v:Value}(h:bX r (aP fr o.dst v) fr'):bX (o::r) fr fr':=fun s hs=>by
 rw[bI,Bool.or_eq_false_iff]at hs
 rw[h s hs.2,cD hs.1]
theorem bf{n:Nat}{ops:Array Oper}{gq:Bool}:∀(f:Nat) (q:Bool) (cur:Option (Nat×Bool)) (kn:List (Nat×Bool)) (l:List Oper) (fr:Fr) (H:Hp) (K:List (Nat×Bool)→Fr→Hp→Prop) (KP:List PanicEntry→Hp→Prop),
  ca P g n ops gq f q cur kn l fr H K KP→eO ops cur l fr→dr kn fr→∀(a:Act) (w:World),aZ ds n a fr→Own g H w→∀(rest:List Oper) (Q:Exit→Act→World→Prop),
  (∀a' w' gQ fr' H',aZ ds n a' fr'→Own g H' w'→bX l fr fr'→dr gQ fr'→K gQ fr' H'→wpList P ops Q rest a' w')→
  (∀ch a' w' fr' H',aZ ds n a' fr'→Own g H' w'→KP ch H'→Q (.panic ch) a' w')→wpList P ops Q (l++rest) a w
 |0,_,_,_,_,_,_,_,_,h=>h.elim
 |f+1,q,cur,kn,[],fr,H,K,KP,h=>fun _ hkn a w ha hw rest Q hk _=>hk a w kn fr H ha hw (bX.refl _ _) hkn h
 |f+1,q,cur,kn,o::r,fr,H,K,KP,h=>by
  intro jz hkn a w ha hw rest Q hk hp
  unfold ca at h
  cases BG:aW o.guard cur<;>simp only[BG,cond_true,cond_false]at h
  case true=>
   have hg:=dz BG
   have gu:=jz.wanted hg ha
   cases hd:bS n o.dst<;>simp only[hd,cond_true,cond_false]at h
   simp only[List.cons_append,wpList,gu,if_true]
   refine .inl ?_
   unfold Oper.wp
   rw[ha.eval]
   cases ob:j3 o.op<;>simp only[ob,cond_true,cond_false]at h
   case true=>
    obtain⟨v,hk',hr,hv⟩:=mP h
    rw[hr w hw]
    exact bf f q cur _ r _ H K KP hk' (jz.tail fun s hs=>cD hs) (hkn.up hv) _ w (ha.put hd v) hw rest Q (fun a' w' gQ fr' H' h1 h2 h3 h5 h4=>hk a' w' gQ fr' H' h1 h2 h3.cons h5 h4) hp
   case false=>
    cases q<;>simp only[cond_true,cond_false]at h
    case true=>
     obtain⟨v,f',args,hr,hs,hk'⟩:=rU h
     rw[hr w]
     refine(hs w hw).mono fun e w'' ⟨H',ho,he,hH⟩=>?_
     subst he;subst hH
     exact bf f true cur _ r _ H' K KP hk' (jz.tail fun s hs=>cD hs) (hkn.del _ _) _ w'' (ha.put hd v) ho rest Q (fun a' w' gQ fr' H' h1 h2 h3 h5 h4=>hk a' w' gQ fr' H' h1 h2 h3.cons h5 h4) hp
    case false=>
     refine(jN (gh fr) h w hw).upon (fun v H' w' ho hk'=>?_) (fun ch H' w' ho hk'=>hp ch a w' fr H' ha ho hk')
     exact bf f false cur _ r _ H' K KP hk' (jz.tail fun s hs=>cD hs) (hkn.del _ _) _ w' (ha.put hd v) ho rest Q (fun a' w' gQ fr' H' h1 h2 h3 h5 h4=>hk a' w' gQ fr' H' h1 h2 h3.cons h5 h4) hp
  case false=>
   split at h<;>try exact h.elim
   rename_i j want A3
   split at h<;>try exact h.elim
   rename_i s ef
   generalize hG:cX cur (o::r)=G at h
   generalize hR:dx cur (o::r)=R at h
   have sn:G++R=o::r:=by rw[←hG,←hR];exact iW _ _
   cases cH:(bS n (some s) &&dN n G&& !aM G s&&fE ops s want [] G)<;>simp only[cH,cond_true,cond_false]at h
   simp only[Bool.and_eq_true,Bool.not_eq_true']at cH
   obtain⟨⟨⟨hds,A7⟩,uI⟩,A2⟩:=cH
   rw[←sn,List.append_assoc]
   have Gq:∀fr',bX G fr fr'→∀s,aM (o::r) s=false→fr' s=fr s:=fun fr' ho s hs=>by
    rw[←sn,aR,Bool.or_eq_false_iff]at hs
    exact ho s hs.1
   have fM:∀fr',bX G fr fr'→eO ops cur R fr':=fun fr' ho=>by
    unfold eO at jz⊢
    split
    ·trivial
    ·obtain⟨t,h1,h2,h3⟩:=jz
     have pM:=h3
     rw[←sn,aR,Bool.or_eq_false_iff]at pM
     exact⟨t,h1,(ho t pM.1).trans h2,pM.2⟩
   have tj:∀fr',bX G fr fr'→dr (fc kn G) fr':=fun fr' ho=>hkn.CE G ho
   split at h
   ·rename_i b hb
    have jk:=hkn s b hb
    cases yC:(b==want)<;>simp only[yC,cond_true,cond_false]at h
    ·have gl:b= !want:=by cases b<;>cases want<;>simp_all
     subst gl
     refine fV G [] fr a A7 uI A2 jk (fun t ht=>by simp at ht) ha fun a' cf=>?_
     refine bf f q cur _ R _ H K KP h (fM _ (bD G fr)) (tj _ (bD G fr)) a' w cf hw rest Q (fun a2 w2 pC jm H2 k1 k2 k3 k5 k4=>hk a2 w2 pC jm H2 k1 k2 ?_ k5 k4) hp
     intro x hx
     have hx':=hx
     rw[←sn,aR,Bool.or_eq_false_iff]at hx'
     rw[k3 x hx'.2,bD G fr x hx'.1]
    ·have gl:b=want:=by cases b<;>cases want<;>simp_all
     subst gl
     refine bf f q o.guard kn G fr H _ KP h ?_ hkn a w ha hw (R++rest) Q ?_ hp
     ·rw[A3];exact⟨s,ef,jk,uI⟩
     ·intro a' w' gQ fr' H' g1 g2 g3 g5 g4
      refine bf f q cur gQ R fr' H' K KP g4 (fM fr' g3) g5 a' w' g1 g2 rest Q (fun a2 w2 pC jm H2 k1 k2 k3 k5 k4=>hk a2 w2 pC jm H2 k1 k2 ?_ k5 k4) hp
      intro x hx
      have hx':=hx
      rw[←sn,aR,Bool.or_eq_false_iff]at hx'
      rw[k3 x hx'.2,g3 x hx'.1]
   rename_i Aq
   cases Hy:(q||gq)<;>simp only[Hy,cond_true,cond_false]at h
   case true=>
    split at h<;>try exact h.elim
    rename_i p r' 
    have Eo:aW p.guard cur=true:=by
     have:∀l:List Oper,dx cur l=p::r'→aW p.guard cur=true:=by
      intro l
      induction l with
      |nil=>intro e;simp[dx]at e
      |cons x y ih=>
       intro e
       simp only[dx]at e
       cases hx:aW x.guard cur<;>simp only[hx,cond_true,cond_false]at e
       ·exact ih e
       ·simp only[List.cons.injEq]at e;rw[←e.1];exact hx
     exact this _ hR
    cases hpk:(iN p&&bS n p.dst)<;>simp only[hpk,cond_true,cond_false]at h
    simp only[Bool.and_eq_true]at hpk
    obtain⟨b,t,jk,h1,h2,h3⟩:=h
    have vY:∀(a':Act) (w':World) (fr':Fr),aZ ds n a' fr'→Own g H w'→bX G fr fr'→gF p fr'=.bool t→wpList P ops Q (p::r'++rest) a' w':=by
     intro a' w' fr' cf cz ho BL
     have gu:=(fM fr' ho).wanted (dz Eo) cf
     simp only[List.cons_append,wpList,gu,if_true]
     refine .inl ?_
     unfold Oper.wp
     rw[cf.eval,gE hpk.1 BL w']
     have vX:m7 G fr' fr=fr':=by
      funext x
      simp only[m7]
      cases hx:aM G x
      ·exact(ho x hx).symm
      ·rfl
     have pM:=h3 fr'
     rw[vX]at pM
     refine bf f q cur _ r' _ H K KP pM ((fM fr' ho).tail fun s hs=>cD hs) ((tj fr' ho).del _ _) _ w' (cf.put hpk.2 _) cz rest Q (fun a2 w2 pC jm H2 g1 g2 g3 g5 g4=>hk a2 w2 pC jm H2 g1 g2 ?_ g5 g4) hp
     intro x hx
     have hx':=hx
     rw[←sn,aR,Bool.or_eq_false_iff,bI,Bool.or_eq_false_iff]at hx'
     rw[g3 x hx'.2.2,cD hx'.2.1,ho x hx'.1]
    by_cases yC:b=want
    ·subst yC
     have so:=h1 rfl
     rw[eu jk]at so
     refine bf f true o.guard _ G fr H _ _ so ?_ (hkn.put jk) a w ha hw (p::r'++rest) Q ?_ ?_
     ·rw[A3];exact⟨s,ef,jk,uI⟩
     ·intro a' w' gQ fr' H' g1 g2 g3 _ ⟨g4,g5⟩
      subst g4
      exact vY a' w' fr' g1 g2 g3 g5
     ·intro _ _ _ _ _ _ _ h0;exact h0.elim
    ·have gl:b= !want:=by cases b<;>cases want<;>simp_all
     have mg:=h2 gl
     subst gl
     rw[eu jk]at mg
     refine fV G [] fr a A7 uI A2 jk (fun t ht=>by simp at ht) ha fun a' cf=>?_
     exact vY a' w _ cf hw (bD G fr) mg
   case false=>
    obtain⟨b,jk,h1,h2⟩:=h
    by_cases yC:b=want
    ·subst yC
     have so:=h1 rfl
     rw[eu jk]at so
     refine bf f q o.guard _ G fr H _ KP so ?_ (hkn.put jk) a w ha hw (R++rest) Q ?_ hp
     ·rw[A3];exact⟨s,ef,jk,uI⟩
     ·intro a' w' gQ fr' H' g1 g2 g3 g5 g4
      refine bf f q cur gQ R fr' H' K KP g4 (fM fr' g3) g5 a' w' g1 g2 rest Q (fun a2 w2 pC jm H2 k1 k2 k3 k5 k4=>hk a2 w2 pC jm H2 k1 k2 ?_ k5 k4) hp
      intro x hx
      have hx':=hx
      rw[←sn,aR,Bool.or_eq_false_iff]at hx'
      rw[k3 x hx'.2,g3 x hx'.1]
    ·have gl:b= !want:=by cases b<;>cases want<;>simp_all
     have mg:=h2 gl
     subst gl
     rw[eu jk]at mg
     refine fV G [] fr a A7 uI A2 jk (fun t ht=>by simp at ht) ha fun a' cf=>?_
     refine bf f q cur _ R _ H K KP mg (fM _ (bD G fr)) ((tj _ (bD G fr)).put (by rw[bD G fr s uI,jk])) a' w cf hw rest Q (fun a2 w2 pC jm H2 k1 k2 k3 k5 k4=>hk a2 w2 pC jm H2 k1 k2 ?_ k5 k4) hp
     intro x hx
     have hx':=hx
     rw[←sn,aR,Bool.or_eq_false_iff]at hx'
     rw[k3 x hx'.2,bD G fr x hx'.1]
theorem bJ{n:Nat}{ops:Array Oper}{gq:Bool}:∀(f:Nat) (cur:Option (Nat×Bool)) (kn:List (Nat×Bool)) (l:List Oper) (fr:Fr) (H:Hp) (K:List (Nat×Bool)→Fr→Hp→Prop) (KP:List PanicEntry→Hp→Prop),
  ca P g n ops gq f true cur kn l fr H K KP→eO ops cur l fr→dr kn fr→∀(a:Act),aZ ds n a fr→∀(rest:List Oper) (Q:Act→Prop),
  (∀a' gQ fr',aZ ds n a' fr'→bX l fr fr'→dr gQ fr'→K gQ fr' H→wpQuiet P ops (Own g H) Q rest a')→wpQuiet P ops (Own g H) Q (l++rest) a
 |0,_,_,_,_,_,_,_,h=>h.elim
 |f+1,cur,kn,[],fr,H,K,KP,h=>fun _ hkn a ha rest Q hk=>hk a kn fr ha (bX.refl _ _) hkn h
 |f+1,cur,kn,o::r,fr,H,K,KP,h=>by
  intro jz hkn a ha rest Q hk
  unfold ca at h
  cases BG:aW o.guard cur<;>simp only[BG,cond_true,cond_false]at h
  case true=>
   have hg:=dz BG
   have gu:=jz.wanted hg ha
   cases hd:bS n o.dst<;>simp only[hd,cond_true,cond_false]at h
   simp only[List.cons_append,wpQuiet,gu,if_true]
   cases ob:j3 o.op<;>simp only[ob,cond_true,cond_false]at h
   case true=>
    obtain⟨v,hk',hr,hv⟩:=mP h
    refine⟨v,fun w hw=>?_,?_⟩
    ·unfold Oper.quietAt
     rw[ha.eval,hr w hw]
     exact⟨rfl,rfl⟩
    ·exact bJ f cur _ r _ H K KP hk' (jz.tail fun s hs=>cD hs) (hkn.up hv) _ (ha.put hd v) rest Q (fun a' gQ fr' h1 h3 h5 h4=>hk a' gQ fr' h1 h3.cons h5 h4)
   case false=>
    obtain⟨v,f',args,hr,hs,hk'⟩:=rU h
    refine⟨v,fun w hw=>?_,?_⟩
    ·unfold Oper.quietAt
     rw[ha.eval,hr w]
     refine⟨rfl,(hs w hw).mono fun e w'' ⟨H',ho,he,hH⟩=>?_⟩
     subst hH
     exact⟨he,ho⟩
    ·exact bJ f cur _ r _ H K KP hk' (jz.tail fun s hs=>cD hs) (hkn.del _ _) _ (ha.put hd v) rest Q (fun a' gQ fr' h1 h3 h5 h4=>hk a' gQ fr' h1 h3.cons h5 h4)
  case false=>
   split at h<;>try exact h.elim
   rename_i j want A3
   split at h<;>try exact h.elim
   rename_i s ef
   generalize hG:cX cur (o::r)=G at h
   generalize hR:dx cur (o::r)=R at h
   have sn:G++R=o::r:=by rw[←hG,←hR];exact iW _ _
   cases cH:(bS n (some s) &&dN n G&& !aM G s&&fE ops s want [] G)<;>simp only[cH,cond_true,cond_false]at h
   simp only[Bool.and_eq_true,Bool.not_eq_true']at cH
   obtain⟨⟨⟨hds,A7⟩,uI⟩,A2⟩:=cH
   rw[←sn,List.append_assoc]
   have fM:∀fr',bX G fr fr'→eO ops cur R fr':=fun fr' ho=>by
    unfold eO at jz⊢
    split
    ·trivial
    ·obtain⟨t,h1,h2,h3⟩:=jz
     have pM:=h3
     rw[←sn,aR,Bool.or_eq_false_iff]at pM
     exact⟨t,h1,(ho t pM.1).trans h2,pM.2⟩
   have tj:∀fr',bX G fr fr'→dr (fc kn G) fr':=fun fr' ho=>hkn.CE G ho
   split at h
   ·rename_i b hb
    have jk:=hkn s b hb
    cases yC:(b==want)<;>simp only[yC,cond_true,cond_false]at h
    ·have gl:b= !want:=by cases b<;>cases want<;>simp_all
     subst gl
     refine gC G [] fr a A7 uI A2 jk (fun t ht=>by simp at ht) ha fun a' cf=>?_
     refine bJ f cur _ R _ H K KP h (fM _ (bD G fr)) (tj _ (bD G fr)) a' cf rest Q (fun a2 pC jm k1 k3 k5 k4=>hk a2 pC jm k1 ?_ k5 k4)
     intro x hx
     have hx':=hx
     rw[←sn,aR,Bool.or_eq_false_iff]at hx'
     rw[k3 x hx'.2,bD G fr x hx'.1]
    ·have gl:b=want:=by cases b<;>cases want<;>simp_all
     subst gl
     refine bJ f o.guard kn G fr H _ KP h ?_ hkn a ha (R++rest) Q ?_
     ·rw[A3];exact⟨s,ef,jk,uI⟩
     ·intro a' gQ fr' g1 g3 g5 g4
      refine bJ f cur gQ R fr' H K KP g4 (fM fr' g3) g5 a' g1 rest Q (fun a2 pC jm k1 k3 k5 k4=>hk a2 pC jm k1 ?_ k5 k4)
      intro x hx
      have hx':=hx
      rw[←sn,aR,Bool.or_eq_false_iff]at hx'
      rw[k3 x hx'.2,g3 x hx'.1]
   rename_i Aq
   simp only[Bool.true_or,cond_true]at h
   split at h<;>try exact h.elim
   rename_i p r' 
   have Eo:aW p.guard cur=true:=by
    have:∀l:List Oper,dx cur l=p::r'→aW p.guard cur=true:=by
     intro l
     induction l with
     |nil=>intro e;simp[dx]at e
     |cons x y ih=>
      intro e
      simp only[dx]at e
      cases hx:aW x.guard cur<;>simp only[hx,cond_true,cond_false]at e
      ·exact ih e
      ·simp only[List.cons.injEq]at e;rw[←e.1];exact hx
    exact this _ hR
   cases hpk:(iN p&&bS n p.dst)<;>simp only[hpk,cond_true,cond_false]at h
   simp only[Bool.and_eq_true]at hpk
   obtain⟨b,t,jk,h1,h2,h3⟩:=h
   have vY:∀(a':Act) (fr':Fr),aZ ds n a' fr'→bX G fr fr'→gF p fr'=.bool t→wpQuiet P ops (Own g H) Q (p::r'++rest) a':=by
    intro a' fr' cf ho BL
    have gu:=(fM fr' ho).wanted (dz Eo) cf
    simp only[List.cons_append,wpQuiet,gu,if_true]
    refine⟨.bool t,fun w hw=>?_,?_⟩
    ·unfold Oper.quietAt
     rw[cf.eval,gE hpk.1 BL w]
     exact⟨rfl,rfl⟩
    have vX:m7 G fr' fr=fr':=by
     funext x
     simp only[m7]
     cases hx:aM G x
     ·exact(ho x hx).symm
     ·rfl
    have pM:=h3 fr'
    rw[vX]at pM
    refine bJ f cur _ r' _ H K KP pM ((fM fr' ho).tail fun s hs=>cD hs) ((tj fr' ho).del _ _) _ (cf.put hpk.2 _) rest Q (fun a2 pC jm g1 g3 g5 g4=>hk a2 pC jm g1 ?_ g5 g4)
    intro x hx
    have hx':=hx
    rw[←sn,aR,Bool.or_eq_false_iff,bI,Bool.or_eq_false_iff]at hx'
    rw[g3 x hx'.2.2,cD hx'.2.1,ho x hx'.1]
   by_cases yC:b=want
   ·subst yC
    have so:=h1 rfl
    rw[eu jk]at so
    refine bJ f o.guard _ G fr H _ _ so ?_ (hkn.put jk) a ha (p::r'++rest) Q ?_
    ·rw[A3];exact⟨s,ef,jk,uI⟩
    ·intro a' gQ fr' g1 g3 _ ⟨_,g5⟩
     exact vY a' fr' g1 g3 g5
   ·have gl:b= !want:=by cases b<;>cases want<;>simp_all
    have mg:=h2 gl
    subst gl
    rw[eu jk]at mg
    refine gC G [] fr a A7 uI A2 jk (fun t ht=>by simp at ht) ha fun a' cf=>?_
    exact vY a' _ cf (bD G fr) mg
end
end Go.Sx
namespace Go.Sx
open Go
section
variable {P:Program} {ops:Array Oper} {Q:Exit→Act→World→Prop} {md:Region.Mode} {S:Nat→World→World→Prop} {S0:World→Prop}
def cr(P:Program)(md:Region.Mode)(ops:Array Oper)(Q:Exit→Act→World→Prop)(S:Nat→World→World→Prop):Nat→Array Bool→Act→World→Prop
 |0,listed,a,w=>Region.ready md ops listed=[]∧Q .normal a w
 |n+1,listed,a,w=>(Region.ready md ops listed=[]→Q .normal a w)∧
  ∀i∈Region.ready md ops listed,wpOp P ops Q i (fun a' w'=>S i w w'∧cr P md ops Q S n (listed.setIfInBounds i true) a' w') a w
theorem cr.any:∀{n:Nat} {listed:Array Bool} {a:Act} {w:World},cr P md ops Q S n listed a w→wpAny P md ops Q n listed a w
 |0,_,_,_,h=>h
 |_+1,_,_,_,h=>⟨h.1,fun i hi=>wpOp_mono (fun _ _ h'=>h'.2.any) (h.2 i hi)⟩
theorem cr.mono{S':Nat→World→World→Prop}(hS:∀j w w',S j w w'→S' j w w'):∀{n:Nat} {listed:Array Bool} {a:Act} {w:World},cr P md ops Q S n listed a w→cr P md ops Q S' n listed a w
 |0,_,_,_,h=>h
 |_+1,_,_,_,h=>⟨h.1,fun i hi=>wpOp_mono (fun _ _ h'=>⟨hS _ _ _ h'.1,h'.2.mono hS⟩) (h.2 i hi)⟩
def zb(md:Region.Mode)(ops:Array Oper)(i j:Nat):Prop:=∀oj,ops[j]? =some oj→∀e∈oj.after,Region.binds md e=true→e.on≠i
def cx(md:Region.Mode)(ops:Array Oper)(listed:Array Bool):Prop:=∀j oj,ops[j]? =some oj→listed.getD j true=true→∀e∈oj.after,Region.binds md e=true→listed.getD e.on true=true
inductive gA(md:Region.Mode)(ops:Array Oper)(i:Nat):Nat→Prop
 |one {j:Nat} {oj:Oper} {e:Edge}:ops[j]? =some oj→e∈oj.after→Region.binds md e=true→e.on=i→gA md ops i j
 |more {j:Nat} {oj:Oper} {e:Edge}:ops[j]? =some oj→e∈oj.after→Region.binds md e=true→gA md ops i e.on→gA md ops i j
theorem m5{a:Array Bool}{i:Nat}(h:a.getD i false=true):a.getD i true=true:=by
 rw[Array.getD_eq_getD_getElem?]at*
 cases hg:a[i]? with
 |none=>rfl
 |some b=>rw[hg]at h;simpa using h
theorem jl{a:Array Bool}{i k:Nat}(h:a.getD k true=true):(a.setIfInBounds i true).getD k true=true:=by
 by_cases e:i=k
 ·subst e
  rw[Array.getD_eq_getD_getElem?,Array.getElem?_setIfInBounds_self]
  split<;>rfl
 ·rw[getD_set_ne true e];exact h
theorem cx.waits{listed:Array Bool}(hc:cx md ops listed){i j:Nat}(h:gA md ops i j):listed.getD j true=true→listed.getD i true=true:=by
 induction h with
 |one h1 h2 h3 h4=>intro h;rw[←h4];exact hc _ _ h1 h _ h2 h3
 |more h1 h2 h3 _ ih=>intro h;exact ih (hc _ _ h1 h _ h2 h3)
theorem cx.ready{listed:Array Bool}(hc:cx md ops listed){i j:Nat}(hj:j∈Region.ready md ops listed)(h:gA md ops i j):listed.getD i true=true:=by
 obtain⟨_,oj,dK,aF⟩:=mem_ready.1 hj
 cases h with
 |one h1 h2 h3 h4=>rw[dK]at h1;cases h1;rw[←h4];exact m5 (aF _ h2 h3)
 |more h1 h2 h3 h4=>rw[dK]at h1;cases h1;exact hc.waits h4 (m5 (aF _ h2 h3))
theorem cx.step{listed:Array Bool}(hc:cx md ops listed){j:Nat}(hj:j∈Region.ready md ops listed):cx md ops (listed.setIfInBounds j true):=by
 intro k ok hk hl e he hb
 by_cases zv:j=k
 ·subst zv
  obtain⟨_,oj,dK,aF⟩:=mem_ready.1 hj
  rw[hk]at dK;cases dK
  exact jl (m5 (aF e he hb))
 ·rw[getD_set_ne true zv]at hl
  exact jl (hc k ok hk hl e he hb)
theorem cx.none(n:Nat)(h:ops.size=n):cx md ops (Array.replicate n false):=by
 intro j oj hj hl
 exfalso
 have hlt:=(Array.getElem?_eq_some_iff.1 hj).1
 rw[Array.getD_eq_getD_getElem?,Array.getElem?_replicate,if_pos (by omega)]at hl
 cases hl
theorem cr.first{i:Nat}{oi:Oper}{v:Value}(hi:ops[i]? =some oi)(hsel:Region.noSelect ops=true)(hQ:∀c a w,Q (.panic c) (a.put oi.dst v) w→Q (.panic c) a w)
 (Dz:∀w,S0 w→S i w w)(hS:∀j oj w w',ops[j]? =some oj→j≠i→¬gA md ops i j→S0 w→S j w w'→S0 w'):∀(n:Nat) (listed:Array Bool) (a:Act) (w:World),cx md ops listed→
   (∀j oj,ops[j]? =some oj→j≠i→listed.getD j true=false→zb md ops i j→oi.apart ops oj=true)→i∈Region.ready md ops listed→YieldsIf P ops S0 oi v a→S0 w→
   cr P md ops Q S n (listed.setIfInBounds i true) (a.put oi.dst v) w→cr P md ops Q S (n+1) listed a w:=by
 have FT:=Region.noSelect_spec hsel
 intro n
 induction n with
 |zero=>
  intro listed a w hc hfree hr hy h0 h
  refine⟨fun e=>absurd hr (by rw[e];simp),fun j hj=>?_⟩
  by_cases e:j=i
  ·rw[e];exact hy.wpOp hi h0 ⟨Dz _ h0,h⟩
  ·exact absurd (ready_mono hj e) (by rw[h.1];simp)
 |succ n ih=>
  intro listed a w hc hfree hr hy h0 h
  refine⟨fun e=>absurd hr (by rw[e];simp),fun j hj=>?_⟩
  by_cases e:j=i
  ·rw[e];exact hy.wpOp hi h0 ⟨Dz _ h0,h⟩
  ·obtain⟨hun,oj,dK,aF⟩:=mem_ready.1 hj
   have hno:zb md ops i j:=fun o ho x hx hb he=>by
    rw[dK]at ho;cases ho
    have h1:=aF x hx hb
    have h2:=(mem_ready.1 hr).1
    rw[he]at h1
    rw[Array.getD_eq_getD_getElem?]at h1 h2
    cases hg:listed[i]? with
    |none=>rw[hg]at h1;simp at h1
    |some y=>rw[hg]at h1 h2;simp at h1 h2;rw[h2]at h1;cases h1
   have BQ:¬gA md ops i j:=fun hw=>by
    have h1:=hc.ready hj hw
    rw[(mem_ready.1 hr).1]at h1;cases h1
   refine wpOp_mono ?_ (wpOp_putIf dK (hfree j oj dK e hun hno) (fun cs b=>FT i oi cs b hi) (fun cs b=>FT j oj cs b dK) hQ hy (h.2 j (ready_mono hj e)))
   rintro a' w' ⟨hy',hs',BH⟩
   refine⟨hs',ih _ _ _ (hc.step hj) (fun k ok hk Ar yo vQ=>hfree k ok hk Ar ?_ vQ) (ready_mono hr (Ne.symm e)) hy' (hS j oj w w' dK e BQ h0 hs') (by rw[Array.setIfInBounds_comm _ _ e];exact BH)⟩
   by_cases zv:j=k
   ·rw[←zv];exact hun
   ·rw[←yo,getD_set_ne true zv]
theorem cr.take{i:Nat}{oi:Oper}{v:Value}{n:Nat}{listed:Array Bool}{a:Act}{w:World}(hc:cx md ops listed)(hi:ops[i]? =some oi)(hsel:Region.noSelect ops=true)(hf:Region.free md ops listed i=true)
 (hr:(Region.ready md ops listed).contains i=true)(hQ:∀c a w,Q (.panic c) (a.put oi.dst v) w→Q (.panic c) a w)(Dz:∀w,S0 w→S i w w)(hS:∀j oj w w',ops[j]? =some oj→j≠i→¬gA md ops i j→S0 w→S j w w'→S0 w')
 (hy:YieldsIf P ops S0 oi v a)(h0:S0 w)(h:cr P md ops Q S n (listed.setIfInBounds i true) (a.put oi.dst v) w):cr P md ops Q S (n+1) listed a w:=
 cr.first hi hsel hQ Dz hS n listed a w hc (fun j oj h1 h2 h3 h4=>Region.free_spec hi hf j oj h1 h2 h3 (h4 oj h1)) (by simpa using hr) hy h0 h
theorem cr.all{rs:List Nat}{n:Nat}{listed:Array Bool}{a:Act}{w:World}(hr:Region.ready md ops listed=rs)(hne:rs≠[])
 (h:∀i∈rs,wpOp P ops Q i (fun a' w'=>S i w w'∧cr P md ops Q S n (listed.setIfInBounds i true) a' w') a w):cr P md ops Q S (n+1) listed a w:=
 ⟨fun h0=>absurd (hr▸h0) hne,hr▸h⟩
theorem cr.done{listed:Array Bool}{a:Act}{w:World}(hr:Region.ready md ops listed=[])(h:Q .normal a w):∀n,cr P md ops Q S n listed a w
 |0=>⟨hr,h⟩
 |_+1=>⟨fun _=>h,by rw[hr];simp⟩
def D1(j:Oper)(i:Nat):Bool:=j.after.toList.any fun e=>Nat.beq e.on i&&Region.binds .any e
def BA(P:Program):Op→Bool
 | .move _| .assign _| .pick .. | .nilCheck _| .fieldAddr .. | .field .. | .indexAddr .. | .unOp .. =>true
 | .slice t _ _ _ none=>match P.underlying t with|some (.slice _)=>true|_=>false
 | .binOp _ t _ _ _=>match P.underlying t with
  |some d=>match nh d with| .other=>false|_=>true
  |none=>true
 |_=>false
theorem nN{g:Gh}{o:Oper}(h:BA P o.op=true)(ρ:Operand→Value)(H H':Hp)(k:Value→Prop):rV P g o ρ H k=rV P g o ρ H' k:=by
 obtain⟨d,op,t,p,a,gd⟩:=o
 cases op<;>first|rfl|(simp only[BA]at h;first|cases h|skip)
 case binOp op t x y z=>
  simp only[rV]
  cases hu:P.underlying t with
  |none=>rfl
  |some d=>
   simp only[hu]at h
   cases hb:nh d<;>simp only[hb]at h⊢
   cases h
 case slice t x lo hi m=>
  cases m with
  |none=>
   simp only[rV]
   cases hu:P.underlying t with
   |none=>simp[hu]at h
   |some d=>cases d<;>first|rfl|(exfalso;simp[hu]at h)
  |some m=>cases h
def k8(P:Program)(o:Op):Bool:=j3 o&& !BA P o
def rW(P:Program)(ops:Array Oper)(j:Nat):Bool:=match ops[j]? with
 |some oj=>(List.range ops.size).any fun i=>match ops[i]? with|some oi=>k8 P oi.op&& !D1 oj i&& !Nat.beq i j|none=>false
 |none=>true
def gB(ops:Array Oper)(i:Nat):Nat→Nat→Bool
 |0,_=>false
 |n+1,j=>match ops[j]? with
  |some oj=>oj.after.toList.any fun e=>Region.binds .any e&& (Nat.beq e.on i||gB ops i n e.on)
  |none=>false
theorem iV{i:Nat}:∀{n j:Nat},gB ops i n j=true→gA .any ops i j
 |0,j,h=>by simp[gB]at h
 |n+1,j,h=>by
  unfold gB at h
  split at h
  ·rename_i oj dK
   obtain⟨e,he,h2⟩:=List.any_eq_true.1 h
   simp only[Bool.and_eq_true,Bool.or_eq_true]at h2
   rcases h2.2 with h3|h3
   ·exact .one dK (Array.mem_toList_iff.1 he) h2.1 (Nat.eq_of_beq_eq_true h3)
   ·exact .more dK (Array.mem_toList_iff.1 he) h2.1 (iV h3)
  ·cases h
def jb(P:Program)(ops:Array Oper)(j:Nat):Bool:=(List.range ops.size).any fun i=>match ops[i]? with|some oi=>k8 P oi.op&& !gB ops i 6 j&& !Nat.beq i j|none=>false
def sI(P:Program)(g:Gh)(R:Hp)(ops:Array Oper)(j:Nat)(w w':World):Prop:=∀oj,ops[j]? =some oj→(j3 oj.op=true→w'=w)∧(j3 oj.op=false→Own g [] w'∧(jb P ops j=true→Own g R w→Own g R w'))
def gN(P:Program)(g:Gh)(Xs:List Hp)(ops:Array Oper)(j:Nat)(w w':World):Prop:=∀X∈Xs,sI P g X ops j w w'
theorem eX{i j:Nat}{oi:Oper}(hi:ops[i]? =some oi)(hp:k8 P oi.op=true)(hne:j≠i)(h:¬gA .any ops i j):jb P ops j=true:=by
 unfold jb
 rw[List.any_eq_true]
 refine⟨i,List.mem_range.2 (Array.getElem?_eq_some_iff.1 hi).1,?_⟩
 simp only[hi,hp,Bool.true_and,Bool.and_eq_true,Bool.not_eq_true']
 refine⟨?_,?_⟩
 ·cases hb:gB ops i 6 j
  ·rfl
  ·exact absurd (iV hb) h
 ·cases hb:Nat.beq i j
  ·rfl
  ·exact absurd (Nat.eq_of_beq_eq_true hb).symm hne
theorem jQ{j:Nat}(h:jb P ops j=true):rW P ops j=true:=by
 unfold jb at h
 obtain⟨i,hi,h2⟩:=List.any_eq_true.1 h
 unfold rW
 split
 ·rename_i oj dK
  refine List.any_eq_true.2 ⟨i,hi,?_⟩
  split at h2
  ·rename_i oi gf
   simp only[Bool.and_eq_true,Bool.not_eq_true']at h2⊢
   refine⟨⟨h2.1.1,?_⟩,h2.2⟩
   cases hb:D1 oj i
   ·rfl
   ·have h3:=h2.1.2
    unfold gB at h3
    simp only[dK]at h3
    unfold D1 at hb
    obtain⟨e,he,h4⟩:=List.any_eq_true.1 hb
    rw[←Bool.not_eq_true,List.any_eq_true]at h3
    refine absurd ⟨e,he,?_⟩ h3
    simp only[Bool.and_eq_true,Bool.or_eq_true]at h4⊢
    exact⟨h4.2,.inl h4.1⟩
  ·cases h2
 ·rfl
end
end Go.Sx
namespace Go.Sx
open Go
section
variable {P:Program} {g:Gh} {ds:List Deferred}
def sM(b:Bool)(p q:Prop):Prop:=cond b (p∧q) q
theorem sM.of{b:Bool}{p q:Prop}(h:sM b p q):(b=true→p)∧q:=by
  cases b
  · exact⟨fun e=>(by cases e),h⟩
  · exact⟨fun _=>h.1,h.2⟩
def vk(P:Program)(ops:Array Oper)(T:List Nat)(i:Nat):Bool:=cond T.isEmpty (rW P ops i) (jb P ops i)
theorem vj{ops:Array Oper}{T:List Nat}{i:Nat}(h:jb P ops i=true):vk P ops T i=true:=by
  unfold vk
  cases T.isEmpty
  · exact h
  · exact jQ h
def tH(P:Program)(g:Gh)(n:Nat)(ops:Array Oper)(R:Hp)(K:Fr→Hp→Prop):List Nat→Array Bool→Fr→Hp→Prop
  | [],listed,fr,H=>cond (Region.ready .any ops listed).isEmpty (K fr H) False
  |i::r,listed,fr,H=>
    match ops[i]? with
    |none=>False
    |some o=>
      cond (bS n o.dst&&o.guard.isNone)
        (cond (j3 o.op)
          (cond (Region.free .any ops listed i&& (Region.ready .any ops listed).contains i)
            (rV P g o (ev fr) R fun v=>tH P g n ops R K r (listed.setIfInBounds i true) (aP fr o.dst v) H) False)
          (cond (Region.ready .any ops listed==[i])
            (xj P g o (ev fr) H (fun v H'=>sM (rW P ops i) (aS H' R) (tH P g n ops R K r (listed.setIfInBounds i true) (aP fr o.dst v) H')) (fun _ _=>False)) False)) False
def iy(Q:Exit→Act→World→Prop):Exit→Act→World→Prop
  | .panic _,_,_=>False
  |e,a,w=>Q e a w
theorem dY{o:Oper}(h:o.guard.isNone=true)(y:Nat→Option Bool):Region.wanted o y=true:=by
  unfold Region.wanted
  cases hg:o.guard<;>simp_all
theorem Own.bu{g:Gh}{H:Hp}{w:World}(h:Own g H w):Own g [] w:=Own.right (A:=H) (B:=[]) (by simpa using h)
theorem cK{listed:Array Bool}{i k:Nat}(hun:listed.getD i true=false)(h:(listed.setIfInBounds i true).getD k true=false):listed.getD k true=false:=by
  by_cases e:i=k
  · rw[←e];exact hun
  · rwa [getD_set_ne true e]at h
theorem ic{n:Nat}{ops:Array Oper}{R:Hp}{K:Fr→Hp→Prop}{Q:Exit→Act→World→Prop}(hs:Region.noSelect ops=true)(lf:Fr)
   (hk:∀a w fr H,aZ ds n a fr→Own g H w→bX ops.toList lf fr→K fr H→Q .normal a w):
    ∀(l:List Nat) (listed:Array Bool) (fr:Fr) (H:Hp),tH P g n ops R K l listed fr H→∀(fuel:Nat),l.length≤fuel→cx .any ops listed→∀(a:Act) (w:World),aZ ds n a fr→Own g H w→((∃k ok,ops[k]? =some ok∧k8 P ok.op=true∧listed.getD k true=false)→Own g R w)→bX ops.toList lf fr→
      cr P .any ops (iy Q) (sI P g R ops) fuel listed a w
  | [],listed,fr,H,h=>by
    intro fuel _ dD a w ha hw hR ho
    unfold tH at h
    cases hr:(Region.ready .any ops listed).isEmpty<;>simp only[hr,cond_true,cond_false]at h
    exact cr.done (Q:=iy Q) (by simpa using hr) (hk a w fr H ha hw ho h) fuel
  |i::r,listed,fr,H,h=>by
    intro fuel hfuel dD a w ha hw hR ho
    unfold tH at h
    split at h<;>try exact h.elim
    rename_i o gf
    have hmem:o∈ops.toList:=Array.mem_toList_iff.2 (Array.mem_of_getElem? gf)
    have hout:∀v,bX ops.toList lf (aP fr o.dst v):=fun v s hs'=>by
      rw[cD,ho s hs']
      have:∀l:List Oper,o∈l→aM l s=false→aM [({(default:Oper)with dst:=o.dst})] s=false:=by
        intro l
        induction l with
        |nil=>intro h;simp at h
        |cons x y ih=>
          intro hm hi
          rw[bI,Bool.or_eq_false_iff]at hi
          rcases List.mem_cons.1 hm with rfl|hm
          · exact hi.1
          · exact ih hm hi.2
      exact this _ hmem hs'
    cases hc:(bS n o.dst&&o.guard.isNone)<;>simp only[hc,cond_true,cond_false]at h
    simp only[Bool.and_eq_true]at hc
    obtain⟨fuel,rfl⟩:∃f,fuel=f+1:=⟨fuel-1,by simp only[List.length_cons]at hfuel;omega⟩
    have pI:r.length≤fuel:=by simp only[List.length_cons]at hfuel;omega
    cases ob:j3 o.op<;>simp only[ob,cond_true,cond_false]at h
    case true=>
      cases fN:(Region.free .any ops listed i&& (Region.ready .any ops listed).contains i)<;>simp only[fN,cond_true,cond_false]at h
      simp only[Bool.and_eq_true]at fN
      have hun:=(mem_ready.1 (by simpa using fN.2:i∈Region.ready .any ops listed)).1
      have j4:∀w,sI P g R ops i w w:=fun w oj fB=>⟨fun _=>rfl,fun hn=>(by rw[gf]at fB;cases fB;rw[ob]at hn;cases hn)⟩
      cases hn:BA P o.op
      case true=>
        rw[nN hn (ev fr) R []]at h
        obtain⟨v,hk',hr⟩:=eA h
        refine cr.take dD (S0:=Own g []) gf hs fN.1 fN.2 (fun _ _ _ h=>h) (fun w _=>j4 w) (fun j oj w w' dK hj hno h0 hk=>?_) (.inl ⟨dY hc.2 _,fun w' cz=>by rw[ha.eval];exact hr w' cz⟩) hw.bu ?_
        · cases mZ:j3 oj.op
          · exact((hk oj dK).2 mZ).1
          · rw[(hk oj dK).1 mZ];exact h0
        · refine ic hs lf hk r _ _ H hk' fuel pI (dD.step (by simpa using fN.2)) _ w (ha.put hc.1 v) hw ?_ (hout v)
          rintro⟨k,ok,j7,jy,gJ⟩
          exact hR ⟨k,ok,j7,jy,cK hun gJ⟩
      case false=>
        obtain⟨v,hk',hr⟩:=eA h
        have hrd:k8 P o.op=true:=by simp[k8,ob,hn]
        have AD:Own g R w:=hR ⟨i,o,gf,hrd,hun⟩
        refine cr.take dD (S0:=Own g R) gf hs fN.1 fN.2 (fun _ _ _ h=>h) (fun w _=>j4 w) (fun j oj w w' dK hj hno h0 hk=>?_) (.inl ⟨dY hc.2 _,fun w' cz=>by rw[ha.eval];exact hr w' cz⟩) AD ?_
        · cases mZ:j3 oj.op
          · exact((hk oj dK).2 mZ).2 (eX gf hrd hj hno) h0
          · rw[(hk oj dK).1 mZ];exact h0
        · exact ic hs lf hk r _ _ H hk' fuel pI (dD.step (by simpa using fN.2)) _ w (ha.put hc.1 v) hw (fun _=>AD) (hout v)
    case false=>
      cases fN:(Region.ready .any ops listed==[i])<;>simp only[fN,cond_true,cond_false]at h
      have hrd:=beq_iff_eq.1 fN
      have uH:i∈Region.ready .any ops listed:=by rw[hrd];simp
      refine cr.all hrd (by simp) fun j hj=>?_
      simp only[List.mem_singleton]at hj
      subst hj
      unfold wpOp
      simp only[gf,dY hc.2,if_true]
      refine .inl ?_
      unfold Oper.wp
      rw[ha.eval]
      refine(jN (gh fr) h w hw).upon (fun v H' w' bV hb=>?_) (fun ch H' w' _ h0=>h0.elim)
      obtain⟨he,hk'⟩:=hb.of
      refine⟨fun oj fB=>⟨fun hp=>(by rw[gf]at fB;cases fB;rw[ob]at hp;cases hp),fun _=>⟨bV.bu,fun hn _=>he (jQ hn) _ _ bV⟩⟩,ic hs lf hk r _ _ H' hk' fuel pI (dD.step uH) _ w' (ha.put hc.1 v) bV ?_ (hout v)⟩
      rintro⟨k,ok,j7,jy,gJ⟩
      refine he (jQ ?_) _ _ bV
      have Ar:j≠k:=fun e=>by
        subst e
        rw[Array.getD_eq_getD_getElem?,Array.getElem?_setIfInBounds_self]at gJ
        have:=(mem_ready.1 uH).1
        rw[Array.getD_eq_getD_getElem?]at this
        split at gJ
        · simp at gJ
        · rename_i hlt;rw[Array.getElem?_eq_none (by omega)]at this;simp at this
      rw[getD_set_ne true Ar]at gJ
      refine eX j7 jy Ar fun hw=>?_
      rw[dD.ready uH hw]at gJ;cases gJ
abbrev Mk:=Obj×(Nat→Value)
def wY(elem size bytes:Nat)(zero:Value)(l c:Value)(k:Mk→Prop):Prop:=
  ∃kl kc ln cn,l=.int kl (ln:Nat)∧c=.int kc (cn:Nat)∧ln≤cn∧(cn:Int)≤9223372036854775807∧cn*bytes≤281474976710656∧
    k (.cells (madeCells zero.cells (cn*size)) elem (0,0),fun b=>.slice (some ⟨b,0,none⟩) ln cn)
def xh(P:Program)(t len:Nat)(parts:List (Nat×Value))(k:Mk→Prop):Prop:=
  ∃cs e n z,P.underlying t=some (.slice e)∧bR P e=some n∧dc P e=some z∧len*n≤2^24∧
      Instr.fill (fun i=>some (i*n,n)) ((Array.range (len*n)).map (z.cells[· %z.cells.size]!)) parts=some cs∧k (.cells cs e (0,0),fun b=>.slice (some ⟨b,0,none⟩) len len)
def Claim(P:Program)(o:Oper)(ρ:Operand→Value)(k:Mk→Prop):Prop:=
  match o.op with
  | .alloc t=>match dc P t with
    |some z=>k (.cells z.cells t (0,0),fun b=>.pointer (some ⟨b,0,none⟩))
    |none=>False
  | .makeMap _ none=>k (.map #[] 0,fun b=>.map (some b))
  | .makeSlice t l c=>match P.underlying t with
    |some (.slice e)=>match bR P e,kF P e,dc P e with
      |some n,some b,some z=>wY e n b z (ρ l) (ρ c) k
      |_,_,_=>False
    |_=>False
  | .buildSlice t len parts=>xh P t len (parts.toList.map fun p=>(p.1,ρ p.2)) k
  |_=>False
def mw(P:Program)(o:Oper)(ρ:Operand→Value)(x:Mk):Prop:=∀w,(execOp ρ o).run P w=.ok (.value (x.2 w.heap.size)) (w.alloc x.1)
theorem Claim.makes{o:Oper}{ρ:Operand→Value}{k:Mk→Prop}(h:Claim P o ρ k):∃x,mw P o ρ x∧k x:=by
  unfold Claim at h
  split at h
  · rename_i t hop
    split at h<;>try exact h.elim
    rename_i z hz
    obtain⟨i,hi,m0⟩:=bK hz
    refine⟨_,fun w=>?_,h⟩
    simp only[execOp,hop]
    simp[Instr.alloc,cy hi m0,newVar,newRow]
  · rename_i t hop
    refine⟨_,fun w=>?_,h⟩
    simp only[execOp,hop]
    simp[Instr.makeMap]
  · rename_i t l c hop
    split at h<;>try exact h.elim
    rename_i e ht
    split at h<;>try exact h.elim
    rename_i n b z hn hb hz
    obtain⟨i,hi,hin⟩:=aI hn
    obtain⟨i',hi',m0⟩:=bK hz
    obtain⟨i2,xm,j8⟩:=fR hb
    have e1:i'=i:=Option.some.inj (hi'.symm.trans hi)
    have e2:i2=i:=Option.some.inj (xm.symm.trans hi)
    subst e1;subst e2
    obtain⟨kl,kc,ln,cn,hl,hc,hlc,bL,hby,hk⟩:=h
    subst hin;subst j8
    refine⟨_,fun w=>?_,hk⟩
    have e1:IntKind.i64.wrap (ln:Int)=ln:=IntWalk.i64_in _ (by omega)
    have e2:IntKind.i64.wrap (cn:Int)=cn:=IntWalk.i64_in _ (by omega)
    have e3:¬((i2.bytes:Int)*(cn:Int)>281474976710656):=by
      have:((cn*i2.bytes:Nat):Int)≤281474976710656:=by omega
      rw[Int.mul_comm];push_cast at this;omega
    have e4:¬((cn:Int)<ln):=by omega
    simp only[execOp,hop]
    by_cases h0:cn*i2.size=0
    · simp[Instr.makeSlice,run_underlying ht,asInt,asIntOf,typeInfo,hi,hl,hc,e1,e2,e3,e4,sizeOf,zeroValue,m0,newRow,madeCells,h0,show¬((cn:Int)<0)from by omega,show¬((ln:Int)<0)from by omega]
      have:Array.range 0=#[]:=rfl
      simp[this]
    · simp[Instr.makeSlice,run_underlying ht,asInt,asIntOf,typeInfo,hi,hl,hc,e1,e2,e3,e4,sizeOf,zeroValue,m0,newRow,madeCells,h0,show¬((cn:Int)<0)from by omega,show¬((ln:Int)<0)from by omega]
  · rename_i t len parts hop
    obtain⟨cs,e,n,z,ht,hn,hz,hl,hf,hk⟩:=h
    obtain⟨i,hi,hin⟩:=aI hn
    obtain⟨i',hi',m0⟩:=bK hz
    have:i'=i:=Option.some.inj (hi'.symm.trans hi)
    subst this
    subst hin
    refine⟨_,fun w=>?_,hk⟩
    have hl':¬(len*i'.size>2^24):=by omega
    have BM:(parts.map fun(x:Nat×Operand)=>(x.1,ρ x.2)).toList=parts.toList.map fun p=>(p.1,ρ p.2):=by rw[Array.toList_map]
    by_cases h0:len*i'.size=0
    · simp only[execOp,hop,Instr.buildSlice,Sem.run_bind,run_underlying ht,Result.andThen_ok,run_sizeOf hi,hl',if_false,h0,if_true,Sem.run_pure]
      rw[h0]at hf
      have El:Array.range 0=#[]:=rfl
      simp only[El,Array.map_empty,List.map_toArray,List.map_nil]at hf⊢
      rw[BM,hf]
      simp[newRow]
    · simp only[execOp,hop,Instr.buildSlice,Sem.run_bind,run_underlying ht,Result.andThen_ok,run_sizeOf hi,hl',if_false,h0,cy hi m0,Sem.run_pure]
      simp[hf,newRow]
  · exact h.elim
abbrev rM:=List (Nat×Mk)
def marks:rM→Nat→Array Bool→Array Bool
  | [],_,l=>l
  |x::r,i,l=>marks r i (cond (Nat.beq x.1 i) l (l.setIfInBounds x.1 true))
def cg(ops:Array Oper)(o:Oper)(i:Nat)(listed:Array Bool):rM→Bool
  | []=>true
  |x::r=>(Nat.beq x.1 i||listed.getD x.1 true||(match ops[x.1]? with|some of=>of.apart ops o|none=>false)) &&cg ops o i listed r
def cu:rM→Nat→Option Mk
  | [],_=>none
  |x::r,i=>cond (Nat.beq x.1 i) (some x.2) (cu r i)
def wV(listed:Array Bool):rM→Bool
  | []=>true
  |x::r=>listed.getD x.1 false&&wV listed r
inductive Hn
  |e
  |h(m:Nat)(L I:List Nat)(a b:Hn)
def Hn.m:Hn→Nat| .e=>0| .h m _ _ _ _=>m
def Hn.L:Hn→List Nat| .e=>[]| .h _ L _ _ _=>L
def Hn.I:Hn→List Nat| .e=>[]| .h _ _ I _ _=>I
def Hn.a:Hn→Hn| .e=>.e| .h _ _ _ a _=>a
def Hn.b:Hn→Hn| .e=>.e| .h _ _ _ _ b=>b
def Br(v:Value)(t f:Prop):Prop:=∃b,v=.bool b∧(b=true→t)∧(b=false→f)
def Aj(p:Oper)(fr:Fr):Value:=
  match p.op with
  | .move x=>ev fr x
  | .assign x=>ev fr x
  |_=>gF p fr
def td(p:Oper):Bool:=match p.op with| .pick .. =>true| .move _=>true| .assign _=>true|_=>false
theorem vC{p:Oper}{fr:Fr}{t:Bool}(hp:td p=true)(h:Aj p fr=.bool t)(w:World):(execOp (ev fr) p).run P w=.ok (.value (.bool t)) w:=by
  unfold td at hp
  unfold Aj at h
  split at h
  · rename_i x hop;simp only[execOp,hop,h];rfl
  · rename_i x hop;simp only[execOp,hop,h];rfl
  · rename_i h1 h2
    split at hp
    · rename_i hop;exact gE (by unfold iN;rw[hop]) h w
    · rename_i x hop;exact absurd hop (h1 x)
    · rename_i x hop;exact absurd hop (h2 x)
    · cases hp
theorem vH{p:Oper}(hp:td p=true):j3 p.op=true:=by
  unfold td at hp
  split at hp<;>first|(rename_i hop;rw[hop];rfl)|cases hp
def mJ(ops:Array Oper)(fr:Fr)(o:Oper):Option Bool:=
  match o.guard with
  |none=>some true
  |some (j,want)=>match bZ ops j with
    |none=>none
    |some s=>match fr s with
      | .bool b=>some (b==want)
      | .tuple _=>some false
      |_=>none
def gm(P:Program)(g:Gh)(n:Nat)(ops:Array Oper)(R:Hp)(K:Fr→Hp→Prop):Hn→rM→Array Bool→Fr→Hp→Prop
  | .e,cl,listed,fr,H=>cond ((Region.ready .any ops listed).isEmpty&&wV listed cl) (K fr H) False
  | .h m L T pa pb,cl,listed,fr,H=>
    match L with
    | [i]=>
      match ops[i]? with
      |none=>False
      |some o=>
        cond (Nat.beq m 1)
          (cond (bS n o.dst&&o.guard.isNone&& !j3 o.op&& !listed.getD i true&&cg ops o i listed cl&& (match cu cl i with|none=>true|some _=>false))
            (Claim P o (ev fr) fun x=>gm P g n ops R K pa ((i,x)::cl) listed fr H) False)
          (cond (bS n o.dst&&cg ops o i listed cl&& (Region.ready .any ops listed).contains i)
            (match mJ ops fr o with
            |none=>False
            |some false=>cond (Region.free .any ops listed i&& (match cu cl i with|none=>true|some _=>false)) (gm P g n ops R K pa cl (listed.setIfInBounds i true) (aP fr o.dst undef) H) False
            |some true=>
              cond (Nat.beq m 3) (cond (td o&&Region.free .any ops listed i) (match Aj o fr with
                | .bool b=>gm P g n ops R K pa cl (listed.setIfInBounds i true) (aP fr o.dst (.bool b)) H
                |_=>False) False)
              (cond (j3 o.op)
                (cond (Region.free .any ops listed i)
                  (rV P g o (ev fr) R fun v=>cond (Nat.beq m 0) (gm P g n ops R K pa cl (listed.setIfInBounds i true) (aP fr o.dst v) H)
                    (Br v (gm P g n ops R K pa cl (listed.setIfInBounds i true) (aP fr o.dst (.bool true)) H) (gm P g n ops R K pb cl (listed.setIfInBounds i true) (aP fr o.dst (.bool false)) H))) False)
                (cond (Region.ready .any ops (marks cl i listed)==[i])
                  (match cu cl i with
                    |some x=>dR H x.1 fun b H'=>gm P g n ops R K pa cl (listed.setIfInBounds i true) (aP fr o.dst (x.2 b)) H'
                    |none=>∀F,xj P (g.add F) o (ev fr) H (fun v H'=>sM (vk P ops T i) (aS H' R) (gm P g n ops R K pa cl (listed.setIfInBounds i true) (aP fr o.dst v) H')) (fun _ _=>False)) False))) False)
    | []=>cond (Nat.beq m 4) (∃R',aS H R'∧aS R' R∧gm P g n ops R' K pa cl listed fr H) False
    |_=>False
theorem wA{cl:rM}{i:Nat}{x:Mk}(h:cu cl i=some x):(i,x)∈cl:=by
  induction cl with
  |nil=>simp[cu]at h
  |cons y r ih=>
    simp only[cu]at h
    cases hb:Nat.beq y.1 i<;>simp only[hb,cond_true,cond_false]at h
    · exact List.mem_cons_of_mem _ (ih h)
    · have:=Nat.eq_of_beq_eq_true hb
      simp only[Option.some.injEq]at h
      subst this;subst h;exact List.mem_cons_self
theorem tD{cl:rM}{i:Nat}(h:i∈cl.map Prod.fst):∃x,cu cl i=some x:=by
  induction cl with
  |nil=>simp at h
  |cons y r ih=>
    simp only[cu]
    cases hb:Nat.beq y.1 i
    · simp only[cond_false]
      rw[List.map_cons,List.mem_cons]at h
      rcases h with h|h
      · subst h;simp at hb
      · exact ih h
    · exact⟨_,rfl⟩
theorem dP{cl:rM}{i:Nat}{x:Mk}(h:cu cl i=some x):i∈cl.map Prod.fst:=List.mem_map.2 ⟨_,wA h,rfl⟩
theorem lT{l:rM}{i:Nat}{b:Array Bool}{k:Nat}:(marks l i b)[k]? =if k∈l.map Prod.fst∧k≠i∧k<b.size then some true else b[k]? :=by
  induction l generalizing b with
  |nil=>simp[marks]
  |cons y r ih=>
    simp only[marks]
    cases hy:Nat.beq y.1 i
    · have hne:y.1≠i:=fun e=>by rw[e]at hy;simp at hy
      simp only[cond_false,ih,Array.size_setIfInBounds]
      by_cases hk:k∈r.map Prod.fst∧k≠i∧k<b.size
      · rw[if_pos hk,if_pos ⟨by rw[List.map_cons];exact List.mem_cons_of_mem _ hk.1,hk.2⟩]
      · rw[if_neg hk]
        by_cases e:y.1=k
        · subst e
          by_cases hlt:y.1<b.size
          · rw[if_pos ⟨by simp,hne,hlt⟩,Array.getElem?_setIfInBounds_self_of_lt hlt]
          · rw[if_neg (fun h=>hlt h.2.2),Array.getElem?_eq_none (by simp;omega),Array.getElem?_eq_none (by omega)]
        · rw[Array.getElem?_setIfInBounds_ne e,if_neg]
          rintro⟨h1,h2⟩
          rw[List.map_cons,List.mem_cons]at h1
          rcases h1 with h1|h1
          · exact e h1.symm
          · exact hk ⟨h1,h2⟩
    · have he:=Nat.eq_of_beq_eq_true hy
      simp only[cond_true,ih]
      by_cases hk:k∈r.map Prod.fst∧k≠i∧k<b.size
      · rw[if_pos hk,if_pos ⟨by rw[List.map_cons];exact List.mem_cons_of_mem _ hk.1,hk.2⟩]
      · rw[if_neg hk,if_neg]
        rintro⟨h1,h2,h3⟩
        rw[List.map_cons,List.mem_cons]at h1
        rcases h1 with h1|h1
        · exact h2 (h1.trans he)
        · exact hk ⟨h1,h2,h3⟩
theorem cA{ops:Array Oper}{o:Oper}{i:Nat}{listed:Array Bool}{l:rM}(h:cg ops o i listed l=true){f:Nat}(hf:f∈l.map Prod.fst)(hne:f≠i)(hun:listed.getD f true=false):
    ∃of,ops[f]? =some of∧of.apart ops o=true:=by
  induction l with
  |nil=>simp at hf
  |cons x r ih=>
    simp only[cg,Bool.and_eq_true,Bool.or_eq_true]at h
    rw[List.map_cons]at hf
    rcases List.mem_cons.1 hf with rfl|hf
    · rcases h.1 with(h1|h1)|h1
      · exact absurd (Nat.eq_of_beq_eq_true h1) hne
      · rw[hun]at h1;simp at h1
      · split at h1
        · rename_i of ho;exact⟨of,ho,h1⟩
        · simp at h1
    · exact ih h.2 hf
theorem p7{ops:Array Oper}{x y:Oper}(h:x.apart ops y=true):y.apart ops x=true:=by
  unfold Oper.apart at*
  cases hx:x.dst<;>cases hy:y.dst<;>simp_all
  exact fun e=>h.1.2 e.symm
theorem iP{ops:Array Oper}{l l':Array Bool}{i:Nat}(h:Region.free .any ops l i=true)(hm:∀k,l.getD k true=true→l'.getD k true=true):Region.free .any ops l' i=true:=by
  unfold Region.free at*
  split at h
  · simp at h
  · rename_i oi gf
    rw[List.all_eq_true]at h⊢
    intro j hj
    have:=h j hj
    simp only[Bool.or_eq_true]at this⊢
    rcases this with(h1|h1)|h1
    · exact .inl (.inl h1)
    · exact .inl (.inr (hm j h1))
    · exact .inr h1
abbrev Early:=List (Nat×Nat×Mk)
def zI(E:Early):Hp:=E.map fun x=>(x.2.1,x.2.2.1)
structure AX(P:Program)(n:Nat)(ops:Array Oper)(listed:Array Bool)(cl:rM)(fr:Fr)(j:Nat)(x:Mk)(o:Oper):Prop where
  op:ops[j]? =some o
  nP:j3 o.op=false
  dst:bS n o.dst=true
  gd:o.guard.isNone=true
  makes:mw P o (ev fr) x
  DJ:∀k y,cu cl k=some y→k≠j→listed.getD k true=false→∃ok,ops[k]? =some ok∧ok.apart ops o=true
structure eM(P:Program)(n:Nat)(ops:Array Oper)(cl:rM)(listed la:Array Bool)(E:Early)(fr fa:Fr):Prop where
  mem:∀x∈E,cu cl x.1=some x.2.2∧listed.getD x.1 true=false
  nd:(E.map Prod.fst).Nodup
  la:∀k,la[k]? =if k∈E.map Prod.fst then some true else listed[k]?
  out:∀s,(∀x∈E,bZ ops x.1≠some s)→fa s=fr s
  at_:∀x∈E,∀d,bZ ops x.1=some d→fa d=x.2.2.2 x.2.1
  cl:∀j x,cu cl j=some x→listed.getD j true=false→∃o,AX P n ops listed cl fr j x o
section
variable {n:Nat} {ops:Array Oper} {cl:rM} {listed la:Array Bool} {E:Early} {fr fa:Fr}
theorem eM.more(h:eM P n ops cl listed la E fr fa){k:Nat}{b:Bool}(hk:listed.getD k b=true):la.getD k b=true:=by
  have:=h.la k
  rw[Array.getD_eq_getD_getElem?]at hk⊢
  rw[this]
  split
  · rfl
  · exact hk
theorem eM.ready(h:eM P n ops cl listed la E fr fa){i:Nat}(hi:i∉E.map Prod.fst)(hr:i∈Region.ready .any ops listed):i∈Region.ready .any ops la:=by
  rw[mem_ready]at hr⊢
  obtain⟨h1,o,ho,aF⟩:=hr
  refine⟨?_,o,ho,fun e he hb=>h.more (aF e he hb)⟩
  have:=h.la i
  rw[Array.getD_eq_getD_getElem?]at h1⊢
  rw[this,if_neg hi];exact h1
theorem y6{i k:Nat}(h:(listed.setIfInBounds i true).getD k true=false):i≠k∧listed.getD k true=false:=by
  by_cases e:i=k
  · subst e
    rw[Array.getD_eq_getD_getElem?]at h
    rcases Nat.lt_or_ge i listed.size with hl|hl
    · rw[Array.getElem?_setIfInBounds_self_of_lt hl]at h;cases h
    · rw[Array.getElem?_eq_none (by simpa using hl)]at h;cases h
  · exact⟨e,by rwa [getD_set_ne true e]at h⟩
theorem mw.congr{o o':Oper}{x:Mk}{v:Value}(h:mw P o (ev fr) x)(hs:∀cs b,o.op≠.select cs b)(hap:o.apart ops o'=true):mw P o (ev (aP fr o'.dst v)) x:=by
  have e:execOp (ev (aP fr o'.dst v)) o=execOp (ev fr) o:=by
    refine execOp_congr o hs fun y hy=>?_
    cases y with
    |tmp t=>
      obtain⟨_,_,h3⟩:=Oper.apart_spec hap
      cases hd:o'.dst with
      |none=>rfl
      |some d=>
        have:=h3 d hd
        have hne:Nat.beq t d=false:=by
          cases hb:Nat.beq t d
          · rfl
          · have e:=Nat.eq_of_beq_eq_true hb;subst e
            refine absurd ?_ this
            exact List.mem_append_left _ (List.mem_filterMap.2 ⟨Operand.tmp t,by simpa using hy,rfl⟩)
        simp only[ev,aP,hne,cond_false]
    |const v=>rfl
    |global g=>rfl
    |func f=>rfl
  intro w;rw[e];exact h w
theorem wK(hs:Region.noSelect ops=true)(dF:∀j x,cu cl j=some x→listed.getD j true=false→∃o,AX P n ops listed cl fr j x o){i:Nat}{o:Oper}(hap:cg ops o i listed cl=true)(v:Value):
    ∀j x,cu cl j=some x→(listed.setIfInBounds i true).getD j true=false→∃oj,AX P n ops (listed.setIfInBounds i true) cl (aP fr o.dst v) j x oj:=by
  intro j x hx hun
  obtain⟨hne,yo⟩:=y6 hun
  obtain⟨oj,h⟩:=dF j x hx yo
  obtain⟨FU,bV,ES⟩:=cA hap (dP hx) (Ne.symm hne) yo
  rw[h.op]at bV;cases bV
  exact⟨oj,h.op,h.nP,h.dst,h.gd,h.makes.congr (fun cs b=>Region.noSelect_spec hs j oj cs b h.op) ES,fun k y hk A5 yx=>h.DJ k y hk A5 (y6 yx).2⟩
theorem eM.step(hs:Region.noSelect ops=true)(h:eM P n ops cl listed la E fr fa){i:Nat}{o:Oper}(gf:ops[i]? =some o)(hi:i∉E.map Prod.fst)
   (kg:cg ops o i listed cl=true)(v:Value):eM P n ops cl (listed.setIfInBounds i true) (la.setIfInBounds i true) E (aP fr o.dst v) (aP fa o.dst v):=by
  have hap:∀x∈E,∃of,ops[x.1]? =some of∧of.apart ops o=true:=fun x hx=>
      cA kg (dP (h.mem x hx).1) (fun e=>hi (e▸List.mem_map_of_mem hx)) (h.mem x hx).2
  have hsz:la[i]? =listed[i]? :=by rw[h.la i,if_neg hi]
  refine⟨fun x hx=>⟨(h.mem x hx).1,?_⟩,h.nd,fun k=>?_,fun s hs=>?_,fun x hx d hd=>?_,wK hs h.cl kg v⟩
  · have hne:i≠x.1:=fun e=>hi (e▸List.mem_map_of_mem hx)
    rw[getD_set_ne true hne];exact(h.mem x hx).2
  · by_cases e:i=k
    · subst e
      rw[if_neg hi,Array.getElem?_setIfInBounds,Array.getElem?_setIfInBounds]
      simp only[if_true]
      have:i<la.size↔i<listed.size:=by
        constructor
        · intro hlt;rw[Array.getElem?_eq_getElem hlt]at hsz;exact(Array.getElem?_eq_some_iff.1 hsz.symm).1
        · intro hlt;rw[Array.getElem?_eq_getElem hlt]at hsz;exact(Array.getElem?_eq_some_iff.1 hsz).1
      by_cases hlt:i<la.size
      · rw[if_pos hlt,if_pos (this.1 hlt)]
      · rw[if_neg hlt,if_neg (fun x=>hlt (this.2 x))]
    · rw[Array.getElem?_setIfInBounds_ne e,Array.getElem?_setIfInBounds_ne e];exact h.la k
  · cases hd:o.dst with
    |none=>exact h.out s hs
    |some d=>
      simp only[aP]
      cases Nat.beq s d
      · exact h.out s hs
      · rfl
  · obtain⟨of,Am,hap⟩:=hap x hx
    obtain⟨h1,h2,h3⟩:=Oper.apart_spec hap
    have Al:of.dst=some d:=by simpa[bZ,Am]using hd
    have:=h2 d Al
    cases EK:o.dst with
    |none=>exact h.at_ x hx d hd
    |some d'=>
      have hne:Nat.beq d d'=false:=by
        cases hb:Nat.beq d d'
        · rfl
        · have e:=Nat.eq_of_beq_eq_true hb;subst e;exact absurd EK this
      simp only[aP,hne,cond_false];exact h.at_ x hx d hd
theorem eM.exec(h:eM P n ops cl listed la E fr fa){o:Oper}
   (hap:∀x∈E,∃of,ops[x.1]? =some of∧of.apart ops o=true)(hs:∀cs b,o.op≠.select cs b):execOp (ev fa) o=execOp (ev fr) o:=by
  refine execOp_congr o hs fun x hx=>?_
  cases x with
  |tmp t=>
    refine h.out t fun y hy e=>?_
    obtain⟨of,Am,hap⟩:=hap y hy
    obtain⟨h1,_,_⟩:=Oper.apart_spec hap
    refine h1 t (by simpa[bZ,Am]using e) ?_
    exact List.mem_append_left _ (List.mem_filterMap.2 ⟨.tmp t,by simpa using hx,rfl⟩)
  |const v=>rfl
  |global g=>rfl
  |func f=>rfl
theorem eM.early(h:eM P n ops cl listed la E fr fa){j b:Nat}{x:Mk}(hj:cu cl j=some x)(vS:j∉E.map Prod.fst)(hun:listed.getD j true=false)
   {o:Oper}(ho:ops[j]? =some o):eM P n ops cl listed (la.setIfInBounds j true) ((j,b,x)::E) fr (aP fa o.dst (x.2 b)):=by
  obtain⟨o',dF⟩:=h.cl j x hj hun
  have bV:=dF.op
  rw[ho]at bV;cases bV
  have AA:∀y∈E,∃of,ops[y.1]? =some of∧of.apart ops o=true:=fun y hy=>
    dF.DJ y.1 _ (h.mem y hy).1 (fun e=>vS (e▸List.mem_map_of_mem hy)) (h.mem y hy).2
  have Er:j<la.size:=by
    have hl:=h.la j
    rw[if_neg vS]at hl
    have h2:j<listed.size:=by
      rcases Nat.lt_or_ge j listed.size with h2|h2
      · exact h2
      · rw[Array.getD_eq_getD_getElem?,Array.getElem?_eq_none h2]at hun;simp at hun
    rw[Array.getElem?_eq_getElem h2]at hl
    exact(Array.getElem?_eq_some_iff.1 hl).1
  refine⟨fun y hy=>?_,?_,fun k=>?_,fun s hs=>?_,fun y hy d hd=>?_,h.cl⟩
  · rcases List.mem_cons.1 hy with rfl|hy
    · exact⟨hj,hun⟩
    · exact h.mem y hy
  · rw[List.map_cons,List.nodup_cons];exact⟨vS,h.nd⟩
  · by_cases e:j=k
    · subst e;rw[if_pos (by simp),Array.getElem?_setIfInBounds_self_of_lt Er]
    · rw[Array.getElem?_setIfInBounds_ne e,h.la k]
      by_cases hk:k∈E.map Prod.fst
      · rw[if_pos hk,if_pos (by rw[List.map_cons];exact List.mem_cons_of_mem _ hk)]
      · rw[if_neg hk,if_neg]
        rw[List.map_cons,List.mem_cons]
        rintro(h1|hk')
        · exact e h1.symm
        · exact hk hk'
  · have hne:=hs (j,b,x) (by simp)
    simp only[bZ,ho]at hne
    rw[show aP fa o.dst (x.2 b) s=fa s from ?_]
    · exact h.out s fun y hy=>hs y (by simp[hy])
    · cases hd:o.dst with
      |none=>rfl
      |some d=>
        rw[hd]at hne
        have:Nat.beq s d=false:=by
          cases hb:Nat.beq s d
          · rfl
          · exact absurd (congrArg some (Nat.eq_of_beq_eq_true hb).symm) hne
        simp only[aP,this,cond_false]
  · rcases List.mem_cons.1 hy with rfl|hy
    · simp only[bZ,ho]at hd
      rw[hd];simp[aP]
    · obtain⟨of,Am,hap⟩:=AA y hy
      obtain⟨_,h2,_⟩:=Oper.apart_spec hap
      have Al:of.dst=some d:=by simpa[bZ,Am]using hd
      have:=h2 d Al
      cases EK:o.dst with
      |none=>exact h.at_ y hy d hd
      |some d'=>
        have hne:Nat.beq d d'=false:=by
          cases hb:Nat.beq d d'
          · rfl
          · have e:=Nat.eq_of_beq_eq_true hb;subst e;exact absurd EK this
        simp only[aP,hne,cond_false];exact h.at_ y hy d hd
theorem eM.DU(hs:Region.noSelect ops=true){E1 E2:Early}{j b:Nat}{x:Mk}(h:eM P n ops cl listed la (E1++(j,b,x)::E2) fr fa){o:Oper}(ho:ops[j]? =some o)(kg:cg ops o j listed cl=true):
    eM P n ops cl (listed.setIfInBounds j true) la (E1++E2) (aP fr o.dst (x.2 b)) fa:=by
  have j6:=h.nd
  rw[List.map_append,List.map_cons]at j6
  have As:j∉(E1++E2).map Prod.fst:=by
    have:=(List.perm_middle.nodup_iff.1 j6)
    rw[List.nodup_cons]at this
    rw[List.map_append];exact this.1
  have hsub:∀y,y∈E1++E2→y∈E1++(j,b,x)::E2:=fun y hy=>by
    rcases List.mem_append.1 hy with hy|hy<;>simp[hy]
  have Au:j<listed.size:=by
    have h2:=(h.mem (j,b,x) (by simp)).2
    rcases Nat.lt_or_ge j listed.size with h3|h3
    · exact h3
    · simp only at h2;rw[Array.getD_eq_getD_getElem?,Array.getElem?_eq_none h3]at h2;simp at h2
  refine⟨fun y hy=>⟨(h.mem y (hsub y hy)).1,?_⟩,?_,fun k=>?_,fun s hs=>?_,fun y hy d hd=>h.at_ y (hsub y hy) d hd,wK hs h.cl kg _⟩
  · have hne:j≠y.1:=fun e=>As (e▸List.mem_map_of_mem hy)
    rw[getD_set_ne true hne];exact(h.mem y (hsub y hy)).2
  · have:=(List.perm_middle.nodup_iff.1 j6)
    rw[List.nodup_cons]at this
    rw[List.map_append];exact this.2
  · have hk:=h.la k
    by_cases e:j=k
    · subst e
      rw[if_pos (by simp)]at hk
      rw[hk,if_neg As,Array.getElem?_setIfInBounds_self_of_lt Au]
    · rw[Array.getElem?_setIfInBounds_ne e,hk]
      have:k∈(E1++(j,b,x)::E2).map Prod.fst↔k∈(E1++E2).map Prod.fst:=by
        simp only[List.map_append,List.map_cons,List.mem_append,List.mem_cons]
        constructor
        · rintro(h|rfl|h)
          · exact .inl h
          · exact absurd rfl e
          · exact .inr h
        · rintro(h|h)
          · exact .inl h
          · exact .inr (.inr h)
      simp only[this]
  · by_cases e:bZ ops j=some s
    · rw[h.at_ (j,b,x) (by simp) s e]
      simp only[bZ,ho]at e
      rw[e];simp[aP]
    · rw[h.out s fun y hy=>?_]
      · simp only[bZ,ho]at e
        cases hd:o.dst with
        |none=>rfl
        |some d=>
          rw[hd]at e
          have:Nat.beq s d=false:=by
            cases hb:Nat.beq s d
            · rfl
            · exact absurd (congrArg some (Nat.eq_of_beq_eq_true hb).symm) e
          simp only[aP,this,cond_false]
      · rcases List.mem_append.1 hy with hy|hy
        · exact hs y (by simp[hy])
        · rcases List.mem_cons.1 hy with rfl|hy
          · exact e
          · exact hs y (by simp[hy])
theorem eM.CK(h:eM P n ops cl listed la E fr fa){i:Nat}{o:Oper}{x:Mk}(ho:ops[i]? =some o)(hd:bS n o.dst=true)(hg:o.guard.isNone=true)(hp:j3 o.op=false)(hun:listed.getD i true=false)
   (hap:cg ops o i listed cl=true)(hno:cu cl i=none)(hm:mw P o (ev fr) x):eM P n ops ((i,x)::cl) listed la E fr fa:=by
  have hne:∀j y,cu cl j=some y→j≠i:=fun j y hj e=>by subst e;rw[hno]at hj;cases hj
  have hex:∀j y,cu cl j=some y→cu ((i,x)::cl) j=some y:=fun j y hj=>by
    have:Nat.beq i j=false:=by
      cases hb:Nat.beq i j
      · rfl
      · exact absurd (Nat.eq_of_beq_eq_true hb).symm (hne j y hj)
    simp only[cu,this,cond_false];exact hj
  have Aw:∀j y,cu ((i,x)::cl) j=some y→(j=i∧y=x)∨(j≠i∧cu cl j=some y):=fun j y hj=>by
    simp only[cu]at hj
    cases hb:Nat.beq i j<;>simp only[hb,cond_true,cond_false]at hj
    · exact .inr ⟨fun e=>by subst e;simp at hb,hj⟩
    · exact .inl ⟨(Nat.eq_of_beq_eq_true hb).symm,by simpa using hj.symm⟩
  refine⟨fun y hy=>⟨hex _ _ (h.mem y hy).1,(h.mem y hy).2⟩,h.nd,h.la,h.out,h.at_,fun j y hj hu=>?_⟩
  rcases Aw j y hj with⟨rfl,rfl⟩|⟨BY,Dq⟩
  · refine⟨o,ho,hp,hd,hg,hm,fun k z hk A5 yx=>?_⟩
    rcases Aw k z hk with⟨rfl,rfl⟩|⟨_,hk⟩
    · exact absurd rfl A5
    · exact cA hap (dP hk) A5 yx
  · obtain⟨oj,hc⟩:=h.cl j y Dq hu
    refine⟨oj,hc.op,hc.nP,hc.dst,hc.gd,hc.makes,fun k z hk A5 yx=>?_⟩
    rcases Aw k z hk with⟨rfl,rfl⟩|⟨_,hk⟩
    · obtain⟨FU,h1,h2⟩:=cA hap (dP Dq) BY hu
      rw[hc.op]at h1;cases h1
      exact⟨o,ho,p7 h2⟩
    · exact hc.DJ k z hk A5 yx
end
theorem tG{E1 E2:Early}{y:Nat×Nat×Mk}:(zI (E1++y::E2)).Perm ((y.2.1,y.2.2.1)::zI (E1++E2)):=by
  unfold zI
  rw[List.map_append,List.map_cons,List.map_append]
  exact List.perm_middle
def cnt:List Bool→Nat
  | []=>0
  |b::r=>cond b 0 1+cnt r
theorem sA:∀(l:List Bool) (i:Nat),l[i]? =some false→cnt (l.set i true)+1=cnt l
  | [],i,h=>by simp at h
  |b::r,0,h=>by simp only[List.getElem?_cons_zero,Option.some.injEq]at h;subst h;simp only[List.set_cons_zero,cnt,cond_true,cond_false];omega
  |b::r,i+1,h=>by
    simp only[List.getElem?_cons_succ]at h
    have:=sA r i h
    simp only[List.set_cons_succ,cnt];omega
theorem lp(n:Nat):cnt (List.replicate n false)=n:=by
  induction n with
  |zero=>rfl
  |succ n ih=>simp only[List.replicate_succ,cnt,ih,cond_false];omega
theorem cC{a:Array Bool}{i:Nat}(h:a.getD i true=false):a[i]? =some false:=by
  rw[Array.getD_eq_getD_getElem?]at h
  cases hg:a[i]? with
  |none=>rw[hg]at h;simp at h
  |some b=>rw[hg]at h;simpa using h
theorem fP{a:Array Bool}{i fuel:Nat}(h:a.getD i true=false)(hf:cnt a.toList≤fuel):∃f,fuel=f+1∧cnt (a.setIfInBounds i true).toList≤f:=by
  have h1:=cC h
  have h2:a.toList[i]? =some false:=by rw[Array.getElem?_toList];exact h1
  have:=sA _ _ h2
  refine⟨fuel-1,by omega,?_⟩
  have:(a.setIfInBounds i true).toList=a.toList.set i true:=by simp
  rw[this];omega
theorem tS{listed:Array Bool}{l:rM}(h:wV listed l=true){f:Nat}(hf:f∈l.map Prod.fst):listed.getD f false=true:=by
  induction l with
  |nil=>simp at hf
  |cons x r ih=>
    simp only[wV,Bool.and_eq_true]at h
    rw[List.map_cons]at hf
    rcases List.mem_cons.1 hf with rfl|hf
    · exact h.1
    · exact ih h.2 hf
theorem yH{a:Array Bool}{i:Nat}(h:a.getD i false=true):a.getD i true=true:=by
  rw[Array.getD_eq_getD_getElem?]at*
  cases hg:a[i]? with
  |none=>rfl
  |some b=>rw[hg]at h;simpa using h
theorem bW{n:Nat}{ops:Array Oper}{R:Hp}{Xs:List Hp}{K:Fr→Hp→Prop}{Q:Exit→Act→World→Prop}(hs:Region.noSelect ops=true)(nq:R∈Xs)(uJ:∀X∈Xs,aS R X)(lf:Fr)
   (hk:∀a w fr H,aZ ds n a fr→Own g H w→bX ops.toList lf fr→K fr H→Q .normal a w):
    ∀(fuel:Nat) (l:Hn) (cl:rM) (listed:Array Bool) (fr:Fr) (H:Hp),gm P g n ops R K l cl listed fr H→∀(E:Early) (la:Array Bool) (fa:Fr),cnt la.toList≤fuel→eM P n ops cl listed la E fr fa→cx .any ops la→
      ∀(a:Act) (w:World),aZ ds n a fa→Own (g.add (zI E)) H w→((∃k ok,ops[k]? =some ok∧k8 P ok.op=true∧la.getD k true=false)→Own g R w)→bX ops.toList lf fr→
      cr P .any ops (iy Q) (gN P g Xs ops) fuel la a w
  |fuel,.e,cl,listed,fr,H,h=>by
    intro E la fa hfuel hE dD a w ha hw hR ho
    unfold gm at h
    cases hr:((Region.ready .any ops listed).isEmpty&&wV listed cl)<;>simp only[hr,cond_true,cond_false]at h
    simp only[Bool.and_eq_true]at hr
    have hr':Region.ready .any ops listed=[]:=by simpa using hr.1
    have Iq:E=[]:=by
      cases E with
      |nil=>rfl
      |cons x y=>
        have h1:=hE.mem x (by simp)
        have h2:=yH (tS hr.2 (dP h1.1))
        rw[h1.2]at h2;cases h2
    subst Iq
    have HX:fa=fr:=by funext s;exact hE.out s (by simp)
    subst HX
    refine cr.done (Q:=iy Q) ?_ (hk a w fa H ha hw ho h) fuel
    rw[List.eq_nil_iff_forall_not_mem]at hr'⊢
    intro k hk'
    refine hr' k ?_
    rw[mem_ready]at hk'⊢
    obtain⟨h1,o,h2,h3⟩:=hk'
    have hla:=fun k=>hE.la k
    simp only[List.map_nil,List.not_mem_nil,if_false]at hla
    refine⟨?_,o,h2,fun e he hb=>?_⟩
    · rw[Array.getD_eq_getD_getElem?,←hla,←Array.getD_eq_getD_getElem?];exact h1
    · rw[Array.getD_eq_getD_getElem?,←hla,←Array.getD_eq_getD_getElem?];exact h3 e he hb
  |fuel,.h m L T pa pb,cl,listed,fr,H,h=>by
    intro E la fa hfuel hE dD a w ha hw hR ho
    have h0:=h
    unfold gm at h
    split at h<;>try exact h.elim
    rotate_left
    · cases h4:Nat.beq m 4<;>simp only[h4,cond_true,cond_false]at h
      obtain⟨R',BI,oa,hk'⟩:=h
      exact(bW (R:=R') (Xs:=R'::Xs) hs (.head _) (fun X hX=>by
        rcases List.mem_cons.1 hX with rfl|hX
        · exact .refl _
        · exact oa.trans (uJ X hX)) lf hk fuel pa cl listed fr H hk' E la fa hfuel hE dD a w ha hw (fun _=>BI _ _ (Own.cI.2 hw).left) ho).mono fun j w w' hK X hX=>hK X (.tail _ hX)
    rename_i i
    split at h<;>try exact h.elim
    rename_i o gf
    cases h1:Nat.beq m 1<;>simp only[h1,cond_true,cond_false]at h
    case true=>
      cases hc:(bS n o.dst&&o.guard.isNone&& !j3 o.op&& !listed.getD i true&&cg ops o i listed cl&& (match cu cl i with|none=>true|some _=>false))<;>simp only[hc,cond_true,cond_false]at h
      simp only[Bool.and_eq_true,Bool.not_eq_true']at hc
      obtain⟨⟨⟨⟨⟨hd,hg⟩,hp⟩,hun⟩,hap⟩,hno⟩:=hc
      have vQ:cu cl i=none:=by
        split at hno
        · assumption
        · cases hno
      obtain⟨x,hm,hk'⟩:=h.makes
      exact bW hs nq uJ lf hk fuel pa _ listed fr H hk' E la fa hfuel (hE.CK gf hd hg hp hun hap vQ hm) dD a w ha hw hR ho
    have hmem:o∈ops.toList:=Array.mem_toList_iff.2 (Array.mem_of_getElem? gf)
    have hout:∀v,bX ops.toList lf (aP fr o.dst v):=fun v s hs'=>by
      rw[cD,ho s hs']
      have:∀l:List Oper,o∈l→aM l s=false→aM [({(default:Oper)with dst:=o.dst})] s=false:=by
        intro l
        induction l with
        |nil=>intro h;simp at h
        |cons x y ih=>
          intro hm hi
          rw[bI,Bool.or_eq_false_iff]at hi
          rcases List.mem_cons.1 hm with rfl|hm
          · exact hi.1
          · exact ih hm hi.2
      exact this _ hmem hs'
    cases hc:(bS n o.dst&&cg ops o i listed cl&& (Region.ready .any ops listed).contains i)<;>simp only[hc,cond_true,cond_false]at h
    simp only[Bool.and_eq_true]at hc
    obtain⟨⟨hd,kg⟩,Ej⟩:=hc
    have uH:i∈Region.ready .any ops listed:=by simpa using Ej
    have hun:=(mem_ready.1 uH).1
    have hap:i∉E.map Prod.fst→∀x∈E,∃of,ops[x.1]? =some of∧of.apart ops o=true:=fun hi x hx=>
      cA kg (dP (hE.mem x hx).1) (fun e=>hi (e▸List.mem_map_of_mem hx)) (hE.mem x hx).2
    have hsel:∀cs b,o.op≠.select cs b:=fun cs b=>Region.noSelect_spec hs i o cs b gf
    have Bj:∀j,j∈Region.ready .any ops la→j∉E.map Prod.fst∧listed.getD j true=false:=fun j hj=>by
      have h1:=cC (mem_ready.1 hj).1
      have h2:=hE.la j
      by_cases vS:j∈E.map Prod.fst
      · rw[if_pos vS,h1]at h2;cases h2
      · rw[if_neg vS,h1]at h2
        exact⟨vS,by rw[Array.getD_eq_getD_getElem?,←h2];rfl⟩
    have early:∀f',fuel=f'+1→(∀j,la.getD j true=false→cnt (la.setIfInBounds j true).toList≤f')→∀j x,j∈Region.ready .any ops la→cu cl j=some x→
        wpOp P ops (iy Q) j (fun a' w'=>gN P g Xs ops j w w'∧cr P .any ops (iy Q) (gN P g Xs ops) f' (la.setIfInBounds j true) a' w') a w:=by
      intro f' xn gk j x hj Dp
      obtain⟨vS,Au⟩:=Bj j hj
      obtain⟨oj,dF⟩:=hE.cl j x Dp Au
      have dK:=dF.op
      have mZ:=dF.nP
      have HR:=dF.gd
      have EH:execOp (ev fa) oj=execOp (ev fr) oj:=hE.exec (fun y hy=>dF.DJ y.1 _ (hE.mem y hy).1 (fun e=>vS (e▸List.mem_map_of_mem hy)) (hE.mem y hy).2) (fun cs b=>Region.noSelect_spec hs j oj cs b dK)
      unfold wpOp
      simp only[dK,dY HR,if_true]
      refine .inl ?_
      unfold Oper.wp
      rw[ha.eval,EH,dF.makes w]
      simp only[Oper.upon]
      have AB:∀{A:Hp},Own g A w→Own g A (w.alloc x.1):=fun hA=>(hA.alloc x.1).tail
      refine⟨fun X _ FU fB=>⟨fun hp=>?_,fun _=>⟨AB (Own.cI.2 hw).bu,fun _ h1=>AB h1⟩⟩,?_⟩
      · rw[dK]at fB;cases fB;rw[mZ]at hp;cases hp
      · have Ir:=hE.early (b:=w.heap.size) Dp vS Au dK
        refine bW hs nq uJ lf hk f' (.h m [i] T pa pb) cl listed fr H h0 ((j,w.heap.size,x)::E) _ _ (gk j (mem_ready.1 hj).1) Ir (dD.step hj) _ _ (ha.put dF.dst _) ?_ ?_ ho
        · have h1:=hw.alloc x.1
          have h2:Own (g.add (zI E)) (H++[(w.heap.size,x.1)]) (w.alloc x.1):=h1.perm (by exact(List.perm_append_comm (l₁:=[(w.heap.size,x.1)]) (l₂:=H)))
          have h3:=Own.cI.1 h2
          exact h3
        · rintro⟨k,ok,j7,jy,gJ⟩
          refine AB (hR ⟨k,ok,j7,jy,cK (mem_ready.1 hj).1 gJ⟩)
    have gu:∀b,mJ ops fr o=some b→i∉E.map Prod.fst→Region.wanted o (yielded ops a.tmps)=b:=by
      intro b hb j9
      unfold mJ at hb
      unfold Region.wanted
      split at hb
      · rename_i hg;simp only[hg];simpa using hb
      · rename_i j want hg
        simp only[hg]
        split at hb<;>try (cases hb;done)
        rename_i s ef
        rw[eR ha ef]
        have jk:fa s=fr s:=hE.out s fun y hy e=>by
          obtain⟨of,Am,hap⟩:=hap j9 y hy
          obtain⟨h1,_,_⟩:=Oper.apart_spec hap
          refine h1 s (by simpa[bZ,Am]using e) ?_
          refine List.mem_append_right _ ?_
          rw[hg]
          unfold bZ at ef
          cases hj:ops[j]? with
          |none=>rw[hj]at ef;cases ef
          |some oj=>rw[hj]at ef;simp only at ef;simp[hj,ef]
        rw[jk]
        split at hb
        · rename_i c hc;rw[hc];simp only[Option.some.injEq]at hb;subst hb;cases c<;>cases want<;>rfl
        · rename_i c hc;rw[hc];simp only[Option.some.injEq]at hb;subst hb;cases want<;>rfl
        · cases hb
    split at h<;>try exact h.elim
    · -- not wanted
      rename_i Ec
      cases fN:(Region.free .any ops listed i&& (match cu cl i with|none=>true|some _=>false))<;>simp only[fN,cond_true,cond_false]at h
      simp only[Bool.and_eq_true]at fN
      have vQ:cu cl i=none:=by
        have:=fN.2
        split at this
        · assumption
        · cases this
      have j9:i∉E.map Prod.fst:=fun hm=>by
        obtain⟨x,hx,e⟩:=List.mem_map.1 hm
        have:=(hE.mem x hx).1
        rw[e,vQ]at this;cases this
      have ff:=hE.ready j9 uH
      have iO:=(mem_ready.1 ff).1
      obtain⟨f',rfl,gk⟩:=fP iO hfuel
      have hfree:=iP (l':=la) fN.1 (fun k hk=>hE.more hk)
      have tu:(Region.ready .any ops la).contains i=true:=by simpa using ff
      refine cr.take dD (S0:=Own g []) gf hs hfree tu (fun _ _ _ h=>h) (fun w hw X _ oj dK=>⟨fun _=>rfl,fun _=>⟨hw,fun _ h=>h⟩⟩) (fun j oj w w' dK hj hno h0 hk=>?_) (.inr ⟨gu false Ec j9,rfl⟩) (Own.cI.2 hw).bu ?_
      · cases mZ:j3 oj.op
        · exact((hk R nq oj dK).2 mZ).1
        · rw[(hk R nq oj dK).1 mZ];exact h0
      · refine bW hs nq uJ lf hk f' pa cl _ _ H h E _ _ gk (hE.step hs gf j9 kg _) (dD.step ff) _ w (ha.put hd _) hw ?_ (hout _)
        rintro⟨k,ok,j7,jy,gJ⟩
        exact hR ⟨k,ok,j7,jy,cK iO gJ⟩
    rename_i Ec
    have Dv:=gu true Ec
    have zz:∀v f' yh a' w',(cond (Nat.beq m 0) (gm P g n ops R K pa cl (listed.setIfInBounds i true) (aP fr o.dst v) H)
                    (Br v (gm P g n ops R K pa cl (listed.setIfInBounds i true) (aP fr o.dst (.bool true)) H) (gm P g n ops R K pb cl (listed.setIfInBounds i true) (aP fr o.dst (.bool false)) H)))→
        cnt yh.toList≤f'→eM P n ops cl (listed.setIfInBounds i true) yh E (aP fr o.dst v) (aP fa o.dst v)→cx .any ops yh→aZ ds n a' (aP fa o.dst v)→Own (g.add (zI E)) H w'→
        ((∃k ok,ops[k]? =some ok∧k8 P ok.op=true∧yh.getD k true=false)→Own g R w')→f'<fuel→cr P .any ops (iy Q) (gN P g Xs ops) f' yh a' w':=by
      intro v f' yh a' w' hv h1 h2 v8 h3 h4 h5 hlt
      cases hm:Nat.beq m 0<;>simp only[hm,cond_true,cond_false]at hv
      · obtain⟨b,rfl,EO,nm⟩:=hv
        cases b
        · exact bW hs nq uJ lf hk f' pb cl _ _ H (nm rfl) E yh _ h1 h2 v8 a' w' h3 h4 h5 (hout _)
        · exact bW hs nq uJ lf hk f' pa cl _ _ H (EO rfl) E yh _ h1 h2 v8 a' w' h3 h4 h5 (hout _)
      · exact bW hs nq uJ lf hk f' pa cl _ _ H hv E yh _ h1 h2 v8 a' w' h3 h4 h5 (hout _)
    cases h3:Nat.beq m 3<;>simp only[h3,cond_true,cond_false]at h
    case true=>
      cases fN:(td o&&Region.free .any ops listed i)<;>simp only[fN,cond_true,cond_false]at h
      simp only[Bool.and_eq_true]at fN
      split at h<;>try exact h.elim
      rename_i b BL
      have ob:j3 o.op=true:=vH fN.1
      have j9:i∉E.map Prod.fst:=fun hm=>by
        obtain⟨x,hx,e⟩:=List.mem_map.1 hm
        have h2:=hE.mem x hx
        obtain⟨o',dF⟩:=hE.cl _ _ h2.1 h2.2
        have h3:=dF.op
        rw[e,gf]at h3;cases h3
        have:=dF.nP
        rw[ob]at this;cases this
      have ff:=hE.ready j9 uH
      have iO:=(mem_ready.1 ff).1
      obtain⟨f',rfl,gk⟩:=fP iO hfuel
      have hfree:=iP (l':=la) fN.2 (fun k hk=>hE.more hk)
      have tu:(Region.ready .any ops la).contains i=true:=by simpa using ff
      have j4:∀w,gN P g Xs ops i w w:=fun w X _ oj fB=>⟨fun _=>rfl,fun hn=>(by rw[gf]at fB;cases fB;rw[ob]at hn;cases hn)⟩
      have tq:=hE.exec (hap j9) hsel
      refine cr.take dD (S0:=Own g []) gf hs hfree tu (fun _ _ _ h=>h) (fun w _=>j4 w) (fun j oj w w' dK hj hno h0 hk=>?_) (.inl ⟨Dv j9,fun w' cz=>by rw[ha.eval,tq];exact vC fN.1 BL w'⟩) (Own.cI.2 hw).bu ?_
      · cases mZ:j3 oj.op
        · exact((hk R nq oj dK).2 mZ).1
        · rw[(hk R nq oj dK).1 mZ];exact h0
      · refine bW hs nq uJ lf hk f' pa cl _ _ H h E _ _ gk (hE.step hs gf j9 kg _) (dD.step ff) _ w (ha.put hd _) hw ?_ (hout _)
        rintro⟨k,ok,j7,jy,gJ⟩
        exact hR ⟨k,ok,j7,jy,cK iO gJ⟩
    cases ob:j3 o.op<;>simp only[ob,cond_true,cond_false]at h
    case true=>
      cases fN:(Region.free .any ops listed i)<;>simp only[fN,cond_true,cond_false]at h
      have j9:i∉E.map Prod.fst:=fun hm=>by
        obtain⟨x,hx,e⟩:=List.mem_map.1 hm
        have h2:=hE.mem x hx
        obtain⟨o',dF⟩:=hE.cl _ _ h2.1 h2.2
        have h3:=dF.op
        rw[e,gf]at h3;cases h3
        have:=dF.nP
        rw[ob]at this;cases this
      have ff:=hE.ready j9 uH
      have iO:=(mem_ready.1 ff).1
      obtain⟨f',rfl,gk⟩:=fP iO hfuel
      have hfree:=iP (l':=la) fN (fun k hk=>hE.more hk)
      have tu:(Region.ready .any ops la).contains i=true:=by simpa using ff
      have j4:∀w,gN P g Xs ops i w w:=fun w X _ oj fB=>⟨fun _=>rfl,fun hn=>(by rw[gf]at fB;cases fB;rw[ob]at hn;cases hn)⟩
      have hst:=fun v=>hE.step hs gf j9 kg v
      have tq:=hE.exec (hap j9) hsel
      cases hn:BA P o.op
      case true=>
        rw[nN hn (ev fr) R []]at h
        obtain⟨v,hk',hr⟩:=eA h
        refine cr.take dD (S0:=Own g []) gf hs hfree tu (fun _ _ _ h=>h) (fun w _=>j4 w) (fun j oj w w' dK hj hno h0 hk=>?_) (.inl ⟨Dv j9,fun w' cz=>by rw[ha.eval,tq];exact hr w' cz⟩) (Own.cI.2 hw).bu ?_
        · cases mZ:j3 oj.op
          · exact((hk R nq oj dK).2 mZ).1
          · rw[(hk R nq oj dK).1 mZ];exact h0
        · refine zz v f' _ _ w hk' gk (hst v) (dD.step ff) (ha.put hd v) hw ?_ (by omega)
          rintro⟨k,ok,j7,jy,gJ⟩
          exact hR ⟨k,ok,j7,jy,cK iO gJ⟩
      case false=>
        obtain⟨v,hk',hr⟩:=eA h
        have hrd:k8 P o.op=true:=by simp[k8,ob,hn]
        have AD:Own g R w:=hR ⟨i,o,gf,hrd,iO⟩
        refine cr.take dD (S0:=Own g R) gf hs hfree tu (fun _ _ _ h=>h) (fun w _=>j4 w) (fun j oj w w' dK hj hno h0 hk=>?_) (.inl ⟨Dv j9,fun w' cz=>by rw[ha.eval,tq];exact hr w' cz⟩) AD ?_
        · cases mZ:j3 oj.op
          · exact((hk R nq oj dK).2 mZ).2 (eX gf hrd hj hno) h0
          · rw[(hk R nq oj dK).1 mZ];exact h0
        · exact zz v f' _ _ w hk' gk (hst v) (dD.step ff) (ha.put hd v) hw (fun _=>AD) (by omega)
    case false=>
      cases fN:(Region.ready .any ops (marks cl i listed)==[i])<;>simp only[fN,cond_true,cond_false]at h
      have hrd:=beq_iff_eq.1 fN
      by_cases j9:i∈E.map Prod.fst
      · obtain⟨⟨i',b,x⟩,hx,e⟩:=List.mem_map.1 j9
        simp only at e;subst e
        have hex:cu cl i'=some x:=(hE.mem _ hx).1
        simp only[hex]at h
        obtain⟨E1,E2,rfl⟩:=List.append_of_mem hx
        have ji:Own (g.add (zI (E1++E2))) ((b,x.1)::H) w:=by
          have h1:=(Own.cI.2 hw).perm ((List.Perm.append_left H (tG (E1:=E1) (E2:=E2) (y:=(i',b,x)))).trans List.perm_middle)
          exact(Own.cI (A:=(b,x.1)::H)).1 h1
        have hb:b∉H.map Prod.fst:=by
          have:=ji.nd
          rw[List.cons_append,List.map_cons,List.nodup_cons,List.map_append,List.mem_append]at this
          exact fun h=>this.1 (.inl h)
        exact bW hs nq uJ lf hk fuel pa cl _ _ _ (h b hb) (E1++E2) la fa hfuel (hE.DU hs gf kg) dD a w ha ji hR (hout _)
      · have ff:=hE.ready j9 uH
        have iO:=(mem_ready.1 ff).1
        obtain⟨f',rfl,gk⟩:=fP iO hfuel
        have B7:∀j,la.getD j true=false→cnt (la.setIfInBounds j true).toList≤f':=fun j hj=>by
          obtain⟨f2,h1,h2⟩:=fP hj hfuel
          have:f2=f':=by omega
          subst this;exact h2
        have hst:=fun v=>hE.step hs gf j9 kg v
        have tq:=hE.exec (hap j9) hsel
        refine cr.all rfl (fun e=>by rw[e]at ff;simp at ff) fun j hj=>?_
        by_cases BY:j=i
        · subst BY
          have nP:∀oj,ops[j]? =some oj→j3 oj.op=true→False:=fun oj dK hp=>by rw[gf]at dK;cases dK;rw[ob]at hp;cases hp
          unfold wpOp
          simp only[gf,Dv j9,if_true]
          refine .inl ?_
          unfold Oper.wp
          rw[ha.eval,tq]
          cases hex:cu cl j with
          |none=>
            simp only[hex]at h
            have h:=h (zI E)
            refine(jN (gh fr) h w hw).upon (fun v H' w' bV hb=>?_) (fun ch H' w' _ h0=>h0.elim)
            obtain⟨he,hk'⟩:=hb.of
            have Cj:jb P ops j=true→Own g R w':=fun hn=>(Own.cI.2 (he (vj hn) _ _ bV)).left
            refine⟨fun X hX oj fB=>⟨fun hp=>(nP oj fB hp).elim,fun _=>⟨(Own.cI.2 bV).bu,fun hn _=>uJ X hX _ _ (Cj hn)⟩⟩,bW hs nq uJ lf hk f' pa cl _ _ H' hk' E _ _ gk (hst v) (dD.step ff) _ w' (ha.put hd v) bV ?_ (hout v)⟩
            rintro⟨k,ok,j7,jy,gJ⟩
            refine Cj ?_
            have Ar:j≠k:=fun e=>by
              subst e
              have h1:=cC iO
              have hlt:=(Array.getElem?_eq_some_iff.1 h1).1
              rw[Array.getD_eq_getD_getElem?,Array.getElem?_setIfInBounds_self_of_lt hlt]at gJ
              cases gJ
            rw[getD_set_ne true Ar]at gJ
            refine eX j7 jy Ar fun hw=>?_
            rw[dD.ready ff hw]at gJ;cases gJ
          |some x=>
            simp only[hex]at h
            obtain⟨oj,dF⟩:=hE.cl j x hex hun
            have dK:=dF.op
            rw[gf]at dK;cases dK
            rw[dF.makes w]
            simp only[Oper.upon]
            have AB:∀{A:Hp},Own g A w→Own g A (w.alloc x.1):=fun hA=>(hA.alloc x.1).tail
            refine⟨fun X _ oj fB=>⟨fun hp=>(nP oj fB hp).elim,fun _=>⟨AB (Own.cI.2 hw).bu,fun _ h1=>AB h1⟩⟩,?_⟩
            refine bW hs nq uJ lf hk f' pa cl _ _ _ (h _ hw.fresh) E _ _ gk (hst _) (dD.step ff) _ _ (ha.put hd _) (hw.alloc x.1) ?_ (hout _)
            rintro⟨k,ok,j7,jy,gJ⟩
            exact AB (hR ⟨k,ok,j7,jy,cK iO gJ⟩)
        · obtain⟨vS,Au⟩:=Bj j hj
          cases BZ:cu cl j with
          |some x=>exact early f' rfl B7 j x hj BZ
          |none=>
          refine absurd ?_ BY
          have Dp:j∉cl.map Prod.fst:=fun hm=>by
            obtain⟨x,hx⟩:=tD hm
            rw[BZ]at hx;cases hx
          have Gc:j∈Region.ready .any ops (marks cl i listed):=by
            obtain⟨_,oj,dK,aF⟩:=mem_ready.1 hj
            rw[mem_ready]
            refine⟨?_,oj,dK,fun e he hb=>?_⟩
            · rw[Array.getD_eq_getD_getElem?,lT,if_neg (fun h=>Dp h.1),←Array.getD_eq_getD_getElem?];exact Au
            · have h1:=aF e he hb
              have h2:=hE.la e.on
              rw[Array.getD_eq_getD_getElem?]at h1⊢
              rw[lT]
              by_cases hm:e.on∈E.map Prod.fst
              · obtain⟨x,hx,e2⟩:=List.mem_map.1 hm
                have Gb:=cC (hE.mem x hx).2
                rw[e2]at Gb
                have hlt:=(Array.getElem?_eq_some_iff.1 Gb).1
                rw[if_pos ⟨e2▸dP (hE.mem x hx).1,fun e3=>j9 (e3▸hm),hlt⟩];rfl
              · rw[if_neg hm]at h2
                split
                · rfl
                · rw[←h2];exact h1
          rw[hrd]at Gc
          simpa using Gc
  termination_by fuel l=>(fuel,SizeOf.sizeOf l)
def jw:Code→Nat→Bool
  | .region _ ops _,s=>aM ops.toList s
  | .seq a b,s=>jw a s||jw b s
  | .cond _ a b,s=>jw a s||jw b s
  | .block _ c,s=>jw c s
  | .loop c,s=>jw c s
  | .skip,_=>false
  | .ret,_=>false
  | .exit _,_=>false
  |_,_=>true
def xZ(c:Code):List Nat→Bool
  | []=>true
  |s::r=> !jw c s&&xZ c r
def kz(s:Nat):List Nat→Bool
  | []=>false
  |x::r=>Nat.beq s x||kz s r
def x7:List Nat→List Value→Fr→Fr
  |l::L,v::vs,base=>fun s=>cond (Nat.beq s l) v (x7 L vs base s)
  |_,_,base=>base
def mix(L:List Nat)(vs:List Value)(I:List Nat)(fr gs:Fr):Fr:=x7 L vs fun s=>cond (kz s I) (fr s) (gs s)
def oV(fr:Fr):List Nat→List Value
  | []=>[]
  |s::r=>fr s::oV fr r
def kU:Nat→(List Value→Prop)→Prop
  |0,p=>p []
  |n+1,p=>∀v,kU n fun vs=>p (v::vs)
theorem kU.intro{p:List Value→Prop}(h:∀vs,p vs):∀n,kU n p
  |0=>h _
  |n+1=>fun v=>kU.intro (fun vs=>h (v::vs)) n
theorem kU.elim{p:List Value→Prop}:∀{n:Nat},kU n p→∀vs:List Value,vs.length=n→p vs
  |0,h,vs,e=>by cases vs with|nil=>exact h|cons x y=>simp at e
  |n+1,h,vs,e=>by
    cases vs with
    |nil=>simp at e
    |cons x y=>exact kU.elim (h x) y (by simpa using e)
theorem pN(fr:Fr)(L:List Nat):(oV fr L).length=L.length:=by induction L<;>simp[oV, *]
theorem jS{L I:List Nat}{fr fr':Fr}(h:∀s,kz s I=true→fr' s=fr s):mix L (oV fr' L) I fr fr'=fr':=by
  funext s
  unfold mix
  induction L with
  |nil=>
    simp only[oV,x7]
    cases he:kz s I
    · rfl
    · exact(h s he).symm
  |cons l L ih=>
    simp only[oV,x7]
    cases hb:Nat.beq s l
    · exact ih
    · have:=Nat.eq_of_beq_eq_true hb;subst this;rfl
theorem jP{c:Code}{I:List Nat}(h:xZ c I=true):∀s,kz s I=true→jw c s=false:=by
  induction I with
  |nil=>intro s hs;simp[kz]at hs
  |cons x r ih=>
    intro s hs
    simp only[xZ,Bool.and_eq_true,Bool.not_eq_true']at h
    simp only[kz,Bool.or_eq_true]at hs
    rcases hs with hs|hs
    · rw[Nat.eq_of_beq_eq_true hs];exact h.1
    · exact ih h.2 s hs
def nB(next:Fr→Hp→Prop)(Q:Exit→Fr→Hp→Prop):Exit→Fr→Hp→Prop
  | .normal,fr,H=>next fr H
  |e,fr,H=>Q e fr H
def wO(id:Nat)(Q:Exit→Fr→Hp→Prop):Exit→Fr→Hp→Prop
  | .exit id',fr,H=>cond (Nat.beq id' id) (Q .normal fr H) (Q (.exit id') fr H)
  |e,fr,H=>Q e fr H
def JE(J:List Value→Hp→Prop)(vs:List Value)(H:Hp):Prop:=∃H',aS H H'∧J vs H'
def av(I:List Value→Hp→Prop)(m:List Value→Hp→Nat)(vs':List Value)(H':Hp)(vs:List Value)(H:Hp):Prop:=∃gO,aS H' gO∧I vs' gO∧m vs' gO<m vs H
def Loop(L:List Nat)(vs:List Value)(H:Hp)(body:(List Value→Hp→Prop)→List Value→Hp→Prop):Prop:=
  ∃(I:List Value→Hp→Prop) (m:List Value→Hp→Nat),JE I vs H∧kU L.length fun vs=>∀H',I vs H'→body (fun vs' gO=>av I m vs' gO vs H') vs H'
def Db(k:Nat)(rest:List Value→Hp→Prop)(body:(List Value→Hp→Prop)→Prop):Prop:=
  ∀J:List Value→Hp→Prop,(kU k fun vs=>∀H,rest vs H→J vs H)→body J
def DR(H:Hp)(body:Hp→Prop):Prop:=∃R,aS H R∧body R
def GS(H R:Hp)(body:Hp→Prop):Prop:=∃R',aS H R'∧aS R' R∧body R'
def gD:Code→Nat→Option (Array Oper)
  | .region id ops _,k=>cond (Nat.beq id k) (some ops) none
  | .seq a b,k=>match gD a k with|some x=>some x|none=>gD b k
  | .cond _ a b,k=>match gD a k with|some x=>some x|none=>gD b k
  | .block _ c,k=>gD c k
  | .loop c,k=>gD c k
  |_,_=>none
def Fz(P:Program)(g:Gh)(id:Nat)(ops:Array Oper)(L:List Nat)(vs:List Value)(H:Hp)(K:Hp→Prop):Prop:=
  ∀a w,dN a.tmps.size ops.toList=true→(L.map fun s=>a.tmps.getD s undef)=vs→Own g H w→
    (Code.region id ops true).wp P (fun e a' w'=>e=.normal∧a'.defers=a.defers∧a'.tmps.size=a.tmps.size∧(∀s,aM ops.toList s=false→a'.tmps.getD s undef=a.tmps.getD s undef)∧∃H',Own g H' w'∧K H') a w
def G4(f:Func)(r:Nat):Array Oper:=match f.body with|some c=>(match gD c r with|some ops=>ops|none=>#[])|none=>#[]
theorem yJ(fr:Fr)(L:List Nat):oV fr L=L.map fr:=by induction L<;>simp[oV, *]
def den(P:Program)(g:Gh)(n:Nat):Code→Hn→(Exit→Fr→Hp→Prop)→Fr→Hp→Prop
  | .skip,_,Q,fr,H=>Q .normal fr H
  | .ret,_,Q,fr,H=>Q .ret fr H
  | .exit id,_,Q,fr,H=>Q (.exit id) fr H
  | .seq x y,hn,Q,fr,H=>
    match hn.m with
    |0=>den P g n x hn.a (nB (den P g n y hn.b Q) Q) fr H
    |_=>cond (xZ x hn.I)
        (Db hn.L.length (fun vs H'=>∀gs,den P g n y hn.b Q (mix hn.L vs hn.I fr gs) H') fun J=>den P g n x hn.a (nB (fun fr' H'=>JE J (oV fr' hn.L) H') Q) fr H) False
  | .cond c x y,hn,Q,fr,H=>Br (ev fr c) (den P g n x hn.a Q fr H) (den P g n y hn.b Q fr H)
  | .block id c,hn,Q,fr,H=>den P g n c hn.a (wO id Q) fr H
  | .loop c,hn,Q,fr,H=>
    cond (xZ c hn.I)
      (Loop hn.L (oV fr hn.L) H fun J vs H'=>∀gs,den P g n c hn.a (nB (fun fr' gO=>J (oV fr' hn.L) gO) Q) (mix hn.L vs hn.I fr gs) H') False
  | .region id ops draw,hn,Q,fr,H=>
    cond draw
      (match hn.m with
      |0=>match hn.L with
       | []=>cond (P.follows .mixedOrders&&Region.lexB .any ops) (ca P g n ops true (ops.toList.length+1) true none [] ops.toList fr H (fun _ fr' H'=>Q .normal fr' H') (fun _ _=>False)) False
       |l=>cond (P.follows .mixedOrders&&Region.noSelect ops&&Nat.ble l.length ops.size)
          (DR H fun R=>tH P g n ops R (fun fr' H'=>Q .normal fr' H') l (Array.replicate ops.size false) fr H) False
      |9=>cond (dN n ops.toList) (Fz P g id ops hn.L (oV fr hn.L) H fun H'=>∀gs,Q .normal (m7 ops.toList gs fr) H') False
      |_=>cond (P.follows .mixedOrders&&Region.noSelect ops)
          (DR H fun R=>gm P g n ops R (fun fr' H'=>Q .normal fr' H') hn.a [] (Array.replicate ops.size false) fr H) False)
      (ca P g n ops (match hn.I with| []=>false|_=>true) (ops.toList.length+1) false none [] ops.toList fr H (fun _ fr' H'=>Q .normal fr' H') (fun ch H'=>∀fr',Q (.panic ch) fr' H'))
  |_,_,_,_,_=>False
theorem nt{c:Code}{Q:Exit→Act→World→Prop}{a:Act}{w:World}(R:Act→World→Nat→Prop)(h₀:∃m,R a w m)
   (round:∀a w m,R a w m→c.wp P (Exit.then (fun a' w'=>∃m',m'<m∧R a' w' m') Q) a w):(Code.loop c).wp P Q a w:=by
  intro b k cs
  have key:∀n a w,R a w n→
      ∃e a' w',Q e a' w'∧Arrives P (lone (b.at a (.code c:: .inLoop c::k)) cs w) b k cs e a' w':=by
    intro n
    induction n using Nat.strongRecOn with
    |_ n ih=>
      intro a w hI
      obtain⟨e,a₁,w₁,hq,oc⟩:=round a w n hI b (.inLoop c::k) cs
      cases e with
      |normal=>
        obtain⟨m',hlt,Cw⟩:=hq
        obtain⟨e₂,a₂,w₂,BJ,yD⟩:=ih m' hlt a₁ w₁ Cw
        exact⟨e₂,a₂,w₂,BJ,.of_steps (Steps.trans oc (.one step_inLoop)) yD⟩
      |exit id=>exact⟨_,a₁,w₁,hq,.pass (x:=.inLoop c) rfl (fun _ _=>.inl (by simp)) oc⟩
      |goto l=>exact⟨_,a₁,w₁,hq,.pass (x:=.inLoop c) rfl (fun _ _=>.inl (by simp)) oc⟩
      |ret=>exact⟨_,a₁,w₁,hq,.pass (x:=.inLoop c) rfl (fun _ _=>.inl (by simp)) oc⟩
      |panic ch=>exact⟨_,a₁,w₁,hq,.pass (x:=.inLoop c) rfl (fun _ _=>.inl (by simp)) oc⟩
      |outgrown=>exact⟨_,a₁,w₁,hq,.pass (x:=.inLoop c) rfl (fun _ _=>.inl (by simp)) oc⟩
  obtain⟨m,h₀⟩:=h₀
  obtain⟨e,a',w',hq,oc⟩:=key m a w h₀
  exact⟨e,a',w',hq,.of_steps (.one step_loop) oc⟩
def jZ:Exit→Bool
  | .panic _=>true
  |_=>false
theorem eL{n:Nat}:∀(c:Code) (hn:Hn) (Q:Exit→Fr→Hp→Prop) (fr:Fr) (H:Hp),den P g n c hn Q fr H→∀(a:Act) (w:World),aZ ds n a fr→Own g H w→c.wp P (fun e a' w'=>∃fr' H',aZ ds n a' fr'∧Own g H' w'∧(jZ e=false→∀s,jw c s=false→fr' s=fr s)∧Q e fr' H') a w:=by
  intro c
  induction c with
  |skip=>intro hn Q fr H h a w ha hw;exact wp_skip ⟨fr,H,ha,hw,fun _ _ _=>rfl,h⟩
  |ret=>intro hn Q fr H h a w ha hw;exact wp_ret ⟨fr,H,ha,hw,fun _ _ _=>rfl,h⟩
  |exit id=>intro hn Q fr H h a w ha hw;exact wp_exit ⟨fr,H,ha,hw,fun _ _ _=>rfl,h⟩
  |seq x y Di Dh=>
    intro hn Q fr H h a w ha hw
    unfold den at h
    have Bu:∀{yK jm:Fr},(∀s,jw x s=false→yK s=fr s)→(∀s,jw y s=false→jm s=yK s)→∀s,jw (.seq x y) s=false→jm s=fr s:=fun h1 h2 s hs=>by
      simp only[jw,Bool.or_eq_false_iff]at hs
      rw[h2 s hs.2,h1 s hs.1]
    have k6:∀{yK:Fr},(∀s,jw x s=false→yK s=fr s)→∀s,jw (.seq x y) s=false→yK s=fr s:=fun h1 s hs=>by
      simp only[jw,Bool.or_eq_false_iff]at hs
      exact h1 s hs.1
    split at h
    · refine wp_seq (wp_mono (Di _ _ fr H h a w ha hw) ?_)
      rintro e a' w' ⟨fr',H',cf,cz,ho,hq⟩
      cases e with
      |normal=>exact wp_mono (Dh _ _ fr' H' hq a' w' cf cz) fun e2 a2 w2 ⟨jm,H2,g1,g2,g3,g4⟩=>⟨jm,H2,g1,g2,fun hp=>Bu (ho rfl) (g3 hp),g4⟩
      |exit id=>exact⟨fr',H',cf,cz,fun hp=>k6 (ho hp),hq⟩
      |goto l=>exact⟨fr',H',cf,cz,fun hp=>k6 (ho hp),hq⟩
      |ret=>exact⟨fr',H',cf,cz,fun hp=>k6 (ho hp),hq⟩
      |panic ch=>exact⟨fr',H',cf,cz,fun hp=>k6 (ho hp),hq⟩
      |outgrown=>exact⟨fr',H',cf,cz,fun hp=>k6 (ho hp),hq⟩
    · cases hno:xZ x hn.I<;>simp only[hno,cond_true,cond_false]at h
      have h':=h (fun vs H'=>∀gs,den P g n y hn.b Q (mix hn.L vs hn.I fr gs) H') (kU.intro (fun vs H' hh=>hh) _)
      refine wp_seq (wp_mono (Di _ _ fr H h' a w ha hw) ?_)
      rintro e a' w' ⟨fr',H',cf,cz,ho,hq⟩
      cases e with
      |normal=>
        obtain⟨Hj,kf,hq⟩:=hq
        have Dl:den P g n y hn.b Q fr' Hj:=by
          have:=hq fr'
          rwa [jS fun s hs=>ho rfl s (jP hno s hs)]at this
        exact wp_mono (Dh _ _ fr' Hj Dl a' w' cf (kf _ _ cz)) fun e2 a2 w2 ⟨jm,H2,g1,g2,g3,g4⟩=>⟨jm,H2,g1,g2,fun hp=>Bu (ho rfl) (g3 hp),g4⟩
      |exit id=>exact⟨fr',H',cf,cz,fun hp=>k6 (ho hp),hq⟩
      |goto l=>exact⟨fr',H',cf,cz,fun hp=>k6 (ho hp),hq⟩
      |ret=>exact⟨fr',H',cf,cz,fun hp=>k6 (ho hp),hq⟩
      |panic ch=>exact⟨fr',H',cf,cz,fun hp=>k6 (ho hp),hq⟩
      |outgrown=>exact⟨fr',H',cf,cz,fun hp=>k6 (ho hp),hq⟩
  |cond c x y Di Dh=>
    intro hn Q fr H h a w ha hw
    obtain⟨b,hb,ht,hf⟩:=h
    refine wp_cond_split (t:=b) (by rw[ha.eval];exact hb) (fun e=>?_) (fun e=>?_)
    · exact wp_mono (Di _ _ fr H (ht e) a w ha hw) fun e2 a2 w2 ⟨jm,H2,g1,g2,g3,g4⟩=>⟨jm,H2,g1,g2,fun hp s hs=>g3 hp s (by simp only[jw,Bool.or_eq_false_iff]at hs;exact hs.1),g4⟩
    · exact wp_mono (Dh _ _ fr H (hf e) a w ha hw) fun e2 a2 w2 ⟨jm,H2,g1,g2,g3,g4⟩=>⟨jm,H2,g1,g2,fun hp s hs=>g3 hp s (by simp only[jw,Bool.or_eq_false_iff]at hs;exact hs.2),g4⟩
  |block id c ih=>
    intro hn Q fr H h a w ha hw
    refine wp_block (wp_mono (ih _ _ fr H h a w ha hw) ?_)
    rintro e a' w' ⟨fr',H',cf,cz,ho,hq⟩
    cases e with
    |exit id'=>
      simp only[wO]at hq
      cases hb:Nat.beq id' id<;>simp only[hb,cond_true,cond_false]at hq
      · have:id'≠id:=fun e=>by subst e;simp at hb
        simp only[Exit.inBlock,this,if_false]
        exact⟨fr',H',cf,cz,ho,hq⟩
      · have:=Nat.eq_of_beq_eq_true hb
        simp only[Exit.inBlock,this,if_true]
        exact⟨fr',H',cf,cz,ho,hq⟩
    |normal=>exact⟨fr',H',cf,cz,ho,hq⟩
    |goto l=>exact⟨fr',H',cf,cz,ho,hq⟩
    |ret=>exact⟨fr',H',cf,cz,ho,hq⟩
    |panic ch=>exact⟨fr',H',cf,cz,ho,hq⟩
    |outgrown=>exact⟨fr',H',cf,cz,ho,hq⟩
  |loop c ih=>
    intro hn Q fr H h a w ha hw
    unfold den at h
    cases hno:xZ c hn.I<;>simp only[hno,cond_true,cond_false]at h
    obtain⟨I,m,⟨H0,B4,h0⟩,hr⟩:=h
    refine nt (fun a w k=>∃fr' H',aZ ds n a fr'∧Own g H' w∧(∀s,jw c s=false→fr' s=fr s)∧I (oV fr' hn.L) H'∧m (oV fr' hn.L) H'=k) ⟨_,fr,H0,ha,B4 _ _ hw,fun _ _=>rfl,h0,rfl⟩ ?_
    rintro a w k ⟨yK,H1,we,ji,zu,hI,rfl⟩
    have hb:=hr.elim (oV yK hn.L) (pN _ _) H1 hI yK
    rw[jS fun s hs=>zu s (jP hno s hs)]at hb
    refine wp_mono (ih _ _ yK H1 hb a w we ji) ?_
    rintro e a' w' ⟨fr',H',cf,cz,ho,hq⟩
    have bV:jZ e=false→∀s,jw c s=false→fr' s=fr s:=fun hp s hs=>(ho hp s hs).trans (zu s hs)
    cases e with
    |normal=>obtain⟨Hj,kf,En,Em⟩:=hq;exact⟨_,Em,fr',Hj,cf,kf _ _ cz,bV rfl,En,rfl⟩
    |exit id=>exact⟨fr',H',cf,cz,bV,hq⟩
    |goto l=>exact⟨fr',H',cf,cz,bV,hq⟩
    |ret=>exact⟨fr',H',cf,cz,bV,hq⟩
    |panic ch=>exact⟨fr',H',cf,cz,bV,hq⟩
    |outgrown=>exact⟨fr',H',cf,cz,bV,hq⟩
  |region id ops draw=>
    intro hn Q fr H h a w ha hw
    unfold den at h
    cases draw<;>simp only[cond_true,cond_false]at h
    case false=>
      refine wp_region_list ?_
      have:=bf _ _ _ _ _ fr H _ _ h trivial (dr.nil fr) a w ha hw [] (fun e a' w'=>∃fr' H',aZ ds n a' fr'∧Own g H' w'∧(jZ e=false→∀s,jw (.region id ops false) s=false→fr' s=fr s)∧Q e fr' H') ?_ ?_
      · simpa using this
      · intro a' w' gQ fr' H' h1 h2 h3 _ h4
        exact⟨fr',H',h1,h2,fun _=>h3,h4⟩
      · intro ch a' w' fr' H' h1 h2 h3
        exact⟨fr',H',h1,h2,fun hp=>by simp[jZ]at hp,h3 fr'⟩
    case true=>
      split at h
      · split at h
        · cases hc:(P.follows .mixedOrders&&Region.lexB .any ops)<;>simp only[hc,cond_true,cond_false]at h
          simp only[Bool.and_eq_true]at hc
          refine wp_region_quiet (C:=Own g H) hc.1 hc.2 hw.oz ?_
          have:=bJ _ none _ ops.toList fr H _ _ h trivial (dr.nil fr) a ha [] (fun a'=>∀w',Own g H w'→∃fr' H',aZ ds n a' fr'∧Own g H' w'∧(jZ .normal=false→∀s,jw (.region id ops true) s=false→fr' s=fr s)∧Q .normal fr' H') ?_
          · simpa using this
          · intro a' gQ fr' h1 h3 _ h4
            exact fun w' cz=>⟨fr',H,h1,cz,fun _=>h3,h4⟩
        · cases hc:(P.follows .mixedOrders&&Region.noSelect ops&&Nat.ble hn.L.length ops.size)<;>simp only[hc,cond_true,cond_false]at h
          simp only[Bool.and_eq_true]at hc
          obtain⟨R,hR,h⟩:=h
          refine wp_mono (Q:=iy fun e a' w'=>∃fr' H',aZ ds n a' fr'∧Own g H' w'∧(jZ e=false→∀s,jw (.region id ops true) s=false→fr' s=fr s)∧Q e fr' H') ?_ ?_
          · refine wp_region_any hc.1.1 (cr.any (S:=sI P g R ops) ?_)
            exact ic hc.1.2 fr (fun a w fr' H' h1 h2 h3 h4=>⟨fr',H',h1,h2,fun _=>h3,h4⟩) _ _ fr H h _ (Nat.le_of_ble_eq_true hc.2) (cx.none _ rfl) _ _ ha hw.oz (fun _=>(hR _ _ hw).oz) (bX.refl _ _)
          · intro e a w h
            cases e<;>first|exact h|exact h.elim
      · cases hc:dN n ops.toList<;>simp only[hc,cond_true,cond_false]at h
        refine wp_mono (h a w (by rw[ha.size];exact hc) (by rw[yJ];exact List.map_congr_left fun s _=>ha.get s) hw) ?_
        rintro e a' w' ⟨rfl,hd,hs,ho,H',cz,hk⟩
        refine⟨m7 ops.toList (fun s=>a'.tmps.getD s undef) fr,H',⟨hd.trans ha.defers,hs.trans ha.size,fun s=>?_⟩,cz,fun _ s hs=>?_,hk _⟩
        · unfold m7
          cases hb:aM ops.toList s
          · rw[cond_false,ho s hb,ha.get]
          · rfl
        · unfold m7;simp only[jw]at hs;rw[hs,cond_false]
      · cases hc:(P.follows .mixedOrders&&Region.noSelect ops)<;>simp only[hc,cond_true,cond_false]at h
        simp only[Bool.and_eq_true]at hc
        obtain⟨R,hR,h⟩:=h
        refine wp_mono (Q:=iy fun e a' w'=>∃fr' H',aZ ds n a' fr'∧Own g H' w'∧(jZ e=false→∀s,jw (.region id ops true) s=false→fr' s=fr s)∧Q e fr' H') ?_ ?_
        · refine wp_region_any hc.1 (cr.any (S:=gN P g [R] ops) ?_)
          refine bW (Xs:=[_]) hc.2 (.head _) (fun X hX=>by rw[List.mem_singleton.1 hX];exact .refl _) fr (fun a w fr' H' h1 h2 h3 h4=>⟨fr',H',h1,h2,fun _=>h3,h4⟩) _ _ [] _ fr H h [] _ fr (by rw[Array.toList_replicate,lp];exact Nat.le_refl _) ⟨by simp,by simp,by simp,fun _ _=>rfl,by simp,fun j x hx=>by simp[cu]at hx⟩ (cx.none _ rfl) _ _ ha hw.oz (fun _=>(hR _ _ hw).oz) (bX.refl _ _)
        · intro e a w h
          cases e<;>first|exact h|exact h.elim
  |label l=>intro hn Q fr H h;exact h.elim
  |goto l=>intro hn Q fr H h;exact h.elim
  |scope c _=>intro hn Q fr H h;exact h.elim
  |refuse s=>intro hn Q fr H h;exact h.elim
  |rangeFunc f ps as b _ _=>intro hn Q fr H h;exact h.elim
def kL(R:Ending→Hp→Prop):List PanicEntry→Hp→Prop:=fun ch H=>∀_:Fr,R (.panicked ch) H
def tW:List PanicEntry→Hp→Prop:=fun _ _=>False
def jK:Code→Nat→Option (Array Oper)
  | .region id ops _,k=>cond (Nat.beq id k) (some ops) none
  | .seq a b,k=>match jK a k with|some x=>some x|none=>jK b k
  | .cond _ a b,k=>match jK a k with|some x=>some x|none=>jK b k
  | .block _ c,k=>jK c k
  | .loop c,k=>jK c k
  |_,_=>none
def nO(f:Func)(r i:Nat):Oper:=match f.body with|some c=>(match jK c r with|some ops=>(match ops[i]? with|some o=>o|none=>default)|none=>default)|none=>default
def dO:List Value→Nat→Fr
  | [],_=>fun _=>undef
  |v::r,i=>fun s=>cond (Nat.beq s i) v (dO r (i+1) s)
def jJ(P:Program)(fr:Fr)(H:Hp):List ResultVar→(List Value→Prop)→Prop
  | [],k=>k []
  | .tmp t::r,k=>jJ P fr H r fun vs=>k (fr t::vs)
  | .cell a t::r,k=>match P.underlying t,bR P t with
    |some d,some n=>cond (bA d) (aB n H (fr a) fun v=>jJ P fr H r fun vs=>k (v::vs)) (Ld H (fr a) fun v=>jJ P fr H r fun vs=>k (v::vs))
    |_,_=>False
def o7:List Value→Value
  | [v]=>v
  |vs=>.tuple vs.toArray
def Fk(P:Program)(fn:Func)(R:Ending→Hp→Prop):Exit→Fr→Hp→Prop
  | .normal,fr,H=>jJ P fr H fn.results.toList fun vs=>R (.returned (o7 vs)) H
  | .ret,fr,H=>jJ P fr H fn.results.toList fun vs=>R (.returned (o7 vs)) H
  | .panic ch,_,H=>R (.panicked ch) H
  |_,_,_=>False
def pT(P:Program)(g:Gh)(fn:Func)(hn:Hn)(args:List Value)(H:Hp)(R:Ending→Hp→Prop):Prop:=
  match fn.body with
  |some c=>cond (Nat.ble args.length fn.ntmps) (den P g fn.ntmps c hn (Fk P fn R) (dO args 0) H) False
  |none=>False
theorem fe:∀(l:List Value) (i s:Nat),dO l i s=if s<i then undef else l.getD (s-i) undef
  | [],i,s=>by simp[dO]
  |v::r,i,s=>by
    simp only[dO,fe r (i+1) s]
    cases hb:Nat.beq s i
    · have hne:s≠i:=fun e=>by subst e;simp at hb
      simp only[cond_false]
      by_cases h:s<i
      · rw[if_pos (by omega),if_pos h]
      · rw[if_neg (by omega),if_neg h,show s-i=(s-(i+1))+1 by omega]
        simp[List.getD]
    · have:=Nat.eq_of_beq_eq_true hb;subst this
      simp[List.getD]
def sX(fr:Fr):ResultVar→Sem Value
  | .tmp t=>pure (fr t)
  | .cell b t=>do loadVar t (←asAddr (fr b))
theorem je{fr:Fr}{H:Hp}{w:World}(hw:Own g H w){b:Tmp}{t:TypeId}{v:Value}{p:Addr}(hp:fr b=.pointer (some p))(h:(Instr.loadAt t (fr b)).run P w=.ok v w):(sX fr (.cell b t)).run P w=.ok v w:=by
  rw[hp]at h
  simp only[sX,hp,asAddr]
  simpa[Instr.loadAt,Instr.sureAddr]using h
theorem gX{fr:Fr}{H:Hp}{w:World}(hw:Own g H w):∀(l:List ResultVar) (k:List Value→Prop),jJ P fr H l k→
    ∃vs,(l.mapM (sX fr)).run P w=.ok vs w∧k vs
  | [],k,h=>⟨[],by simp,h⟩
  | .tmp t::r,k,h=>by
    obtain⟨vs,hr,hk⟩:=gX hw r _ h
    refine⟨fr t::vs,?_,hk⟩
    simp only[List.mapM_cons,Sem.run_bind,Sem.run_pure,Result.andThen_ok,hr,sX]
  | .cell b t::r,k,h=>by
    unfold jJ at h
    split at h<;>try exact h.elim
    rename_i d m hd hm
    obtain⟨i,hi,HL⟩:=aI hm
    cases ET:bA d<;>simp only[ET,cond_true,cond_false]at h
    · obtain⟨v,hk',hf⟩:=h.fix
      obtain⟨v2,oa,e⟩:=hf.run (P:=P) hw hd ET
      subst e
      obtain⟨bb,off,c,T,fz,u,hp,_⟩:=hf
      obtain⟨vs,hr,hk⟩:=gX hw r _ hk'
      refine⟨v2::vs,?_,hk⟩
      have:=je hw hp oa
      simp only[List.mapM_cons,Sem.run_bind,Result.andThen_ok,hr,Sem.run_pure,this]
    · obtain⟨v,hk',hf⟩:=h.fix
      obtain⟨v2,oa,e⟩:=hf.run (P:=P) hw hd ET hi HL
      subst e
      obtain⟨bb,off,c,T,fz,hp,_⟩:=hf
      obtain⟨vs,hr,hk⟩:=gX hw r _ hk'
      refine⟨v2::vs,?_,hk⟩
      have:=je hw hp oa
      simp only[List.mapM_cons,Sem.run_bind,Result.andThen_ok,hr,Sem.run_pure,this]
theorem dg{fn:Func}{fr:Fr}{H:Hp}{n:Nat}{a:Act}{w:World}(ha:aZ ds n a fr)(hw:Own g H w){k:List Value→Prop}(h:jJ P fr H fn.results.toList k):
    ∃vs,(results fn a.tmps).run P w=.ok (o7 vs) w∧k vs:=by
  obtain⟨vs,hr,hk⟩:=gX (P:=P) hw _ _ h
  refine⟨vs,?_,hk⟩
  have e:results fn a.tmps=(do let vs ←fn.results.mapM (sX fr);pure (if h:vs.size=1 then vs[0]else .tuple vs)):=by
    unfold results
    congr 1
    congr 1
    funext x
    cases x<;>simp only[sX,ha.get]
  rw[e,Array.mapM_eq_mapM_toList]
  simp only[Sem.run_bind,Sem.run_map,hr,Result.andThen_ok,Sem.run_pure]
  congr 1
  match vs with
  | []=>rfl
  | [v]=>rfl
  |a::b::r=>simp[o7]
theorem pS{f:FuncId}{fn:Func}{hn:Hn}{args:List Value}{H:Hp}{R:Ending→Hp→Prop}(hf:P.funcs[f]? =some fn)(h:pT P g fn hn args H R):aV P g f args.toArray H R:=by
  intro w hw
  unfold pT at h
  split at h<;>try exact h.elim
  rename_i c hc
  cases hl:Nat.ble args.length fn.ntmps<;>simp only[hl,cond_true,cond_false]at h
  have hle:=Nat.le_of_ble_eq_true hl
  refine calls_of_wp hf hc (wp_mono (eL c hn _ _ H h _ w ⟨rfl,?_,?_⟩ hw) ?_)
  · simp;omega
  · intro s
    rw[fe,Array.getD_eq_getD_getElem?,Array.getElem?_append]
    simp only[List.size_toArray,Nat.not_lt_zero,if_false,Nat.sub_zero]
    by_cases hs:s<args.length
    · simp[hs,List.getD]
    · rw[if_neg hs]
      rw[Array.getElem?_replicate]
      have:args.getD s undef=undef:=by simp[List.getD,List.getElem?_eq_none (Nat.le_of_not_lt hs)]
      rw[this]
      split<;>rfl
  · rintro e a' w' ⟨fr',H',cf,cz,_,hq⟩
    cases e with
    |normal=>obtain⟨vs,hr,hk⟩:=dg cf cz hq;exact⟨cf.defers,_,hr,H',cz,hk⟩
    |ret=>obtain⟨vs,hr,hk⟩:=dg cf cz hq;exact⟨cf.defers,_,hr,H',cz,hk⟩
    |panic ch=>exact⟨cf.defers,H',cz,hq⟩
    |exit id=>exact hq.elim
    |goto l=>exact hq.elim
    |outgrown=>exact hq.elim
end
end Go.Sx
namespace Go.Sx
open Go
section
variable {P:Program} {g:Gh} {H:Hp}
theorem Nil.ptr{a:Addr}{k:Value→Prop}(h:k (.pointer (some a))):Nil (.pointer (some a)) k:=⟨_,rfl,h⟩
theorem aj.mk{b o off:Nat}{k:Value→Prop}(h:k (.pointer (some ⟨b,o+off,none⟩))):aj off (.pointer (some ⟨b,o,none⟩)) k:=⟨b,o,rfl,h⟩
theorem Ld.mk{b off:Nat}{c:Array Value}{T:TypeId}{fz:Nat×Nat}{v:Value}{k:Value→Prop}(hm:(b,Obj.cells c T fz)∈H)(hc:c[off]? =some v)(h:k v):Ld H (.pointer (some ⟨b,off,none⟩)) k:=
 ⟨b,off,c,T,fz,v,rfl,hm,hc,h⟩
theorem aB.mk{b off n:Nat}{c:Array Value}{T:TypeId}{fz:Nat×Nat}{vs:Array Value}{k:Value→Prop}(hm:(b,Obj.cells c T fz)∈H)(hs:off+n≤c.size)(hc:c.extract off (off+n)=vs)(h:k (.agg vs)):aB n H (.pointer (some ⟨b,off,none⟩)) k:=
 ⟨b,off,c,T,fz,rfl,hm,hs,by rw[hc];exact h⟩
theorem St.mk{b off n:Nat}{c:Array Value}{T:TypeId}{x:Value}{c':Array Value}{H':Hp}{k:Hp→Prop}(hu:cv b (.cells c T (0,0)) (.cells c' T (0,0)) H H')(hx:x.cells.size=n)(hs:off+n≤c.size)
 (h1:∀v∈x.cells.toList,v.oneCell'=true)(hc:eV c off x.cells.toList=c')(h:k H'):St n H (.pointer (some ⟨b,off,none⟩)) x k:=
 ⟨b,off,c,T,H',rfl,hx,hs,h1,by rw[hc];exact hu,h⟩
theorem JE.mk{J:List Value→Hp→Prop}{vs:List Value}(h:J vs H):JE J vs H:=⟨H,.refl _,h⟩
theorem JE.of{J:List Value→Hp→Prop}{vs:List Value}{H':Hp}(e:aS H H')(h:J vs H'):JE J vs H:=⟨H',e,h⟩
theorem av.mk{I:List Value→Hp→Prop}{m:List Value→Hp→Nat}{vs' vs:List Value}{H0:Hp}(h:I vs' H)(hm:m vs' H<m vs H0):av I m vs' H vs H0:=⟨H,.refl _,h,hm⟩
theorem av.of{I:List Value→Hp→Prop}{m:List Value→Hp→Nat}{vs' vs:List Value}{H' H0:Hp}(e:aS H H')(h:I vs' H')(hm:m vs' H'<m vs H0):av I m vs' H vs H0:=⟨H',e,h,hm⟩
theorem Br.mk{b:Bool}{t f:Prop}(h1:b=true→t)(h2:b=false→f):Br (.bool b) t f:=⟨b,rfl,h1,h2⟩
theorem Br.yes{t f:Prop}(h1:t):Br (.bool true) t f:=⟨true,rfl,fun _=>h1,fun h=>by simp at h⟩
theorem Br.no{t f:Prop}(h1:f):Br (.bool false) t f:=⟨false,rfl,fun h=>by simp at h,fun _=>h1⟩
theorem Br.zV{b:Bool}{t f:Prop}(hb:b=true)(h1:t):Br (.bool b) t f:=by subst hb;exact Br.yes h1
theorem Br.D3{b:Bool}{t f:Prop}(hb:b=false)(h1:f):Br (.bool b) t f:=by subst hb;exact Br.no h1
theorem cW.mk{a:Bool}{want:Bool}{inner els k:Bool→Prop}(t:Bool)(h1:a=want→inner t)(h2:a= !want→els t)(h3:k t):cW (.bool a) want inner els k:=⟨a,t,rfl,h1,h2,h3⟩
theorem cW.and{a:Bool}{inner els k:Bool→Prop}(b:Bool)(h1:a=true→inner b)(h2:els false)(h3:k (a&&b)):cW (.bool a) true inner els k:=
 ⟨a,a&&b,rfl,fun e=>by subst e;exact h1 rfl,fun e=>by subst e;exact h2,h3⟩
theorem cW.or{a:Bool}{inner els k:Bool→Prop}(b:Bool)(h1:a=false→inner b)(h2:els true)(h3:k (a||b)):cW (.bool a) false inner els k:=
 ⟨a,a||b,rfl,fun e=>by subst e;exact h1 rfl,fun e=>by subst e;exact h2,h3⟩
theorem Split.mk{a:Bool}{want:Bool}{k1 k2:Prop}(h1:a=want→k1)(h2:a= !want→k2):Split (.bool a) want k1 k2:=⟨a,rfl,h1,h2⟩
theorem Split.go{a:Bool}{want:Bool}{k1 k2:Prop}(e:a=want)(h1:k1):Split (.bool a) want k1 k2:=⟨a,rfl,fun _=>h1,fun e'=>by subst e;cases a<;>simp at e'⟩
theorem Split.Bt{a:Bool}{want:Bool}{k1 k2:Prop}(e:a= !want)(h1:k2):Split (.bool a) want k1 k2:=⟨a,rfl,fun e'=>by subst e';cases a<;>simp at e,fun _=>h1⟩
theorem ax.mk{t:Bool}{a b:Value}{k:Value→Prop}(h:k (cond t a b)):ax (.bool t) a b k:=⟨t,rfl,h⟩
theorem Un.not{b:Bool}{k:Value→Prop}(h:k (.bool !b)):Un .not (.bool b) k:=⟨_,rfl,h⟩
theorem Ext.mk{i:Nat}{vs:Array Value}{v:Value}{k:Value→Prop}(hv:vs[i]? =some v)(h:k v):Ext i (.tuple vs) k:=⟨vs,v,rfl,hv,h⟩
theorem bM.mk{a:Option Addr}{n c:Nat}{k:Value→Prop}(h:k (.int .i64 n)):bM (.slice a n c) k:=⟨a,n,c,rfl,h⟩
theorem bt.of{kd j:IntKind}{n m:Int}{k:Value→Prop}(e:kd.wrap n=m)(h:k (.int kd m)):bt kd (.int j n) k:=⟨j,n,rfl,by rw[e];exact h⟩
theorem zP.mk{off:Nat}{cs:Array Value}{v:Value}{k:Value→Prop}(hc:cs[off]? =some v)(h:k v):zP off (.agg cs) k:=⟨cs,v,rfl,hc,h⟩
theorem ah.mk{size b o n c:Nat}{kd:IntKind}{i:Int}{k:Value→Prop}(h0:0≤i)(h1:i<(n:Int))(h:k (.pointer (some ⟨b,o+i.toNat*size,none⟩))):ah size (.slice (some ⟨b,o,none⟩) n c) (.int kd i) k:=
 ⟨b,o,n,c,kd,i,rfl,rfl,h0,h1,h⟩
theorem ah.nat{size b o n c:Nat}{kd:IntKind}{j:Nat}{k:Value→Prop}(h1:j<n)(h:k (.pointer (some ⟨b,o+j*size,none⟩))):ah size (.slice (some ⟨b,o,none⟩) n c) (.int kd (j:Int)) k:=
 ah.mk (Int.natCast_nonneg j) (by omega) (by simpa using h)
theorem ae.eql{kd:IntKind}{a b:Int}{k:Value→Prop}(h:k (.bool (a==b))):ae .num .eql (.int kd a) (.int kd b) k:=⟨_,by simp[dW,gj],h⟩
theorem ae.neq{kd:IntKind}{a b:Int}{k:Value→Prop}(h:k (.bool (a !=b))):ae .num .neq (.int kd a) (.int kd b) k:=⟨_,by simp[dW,gj],h⟩
theorem ae.lss{kd:IntKind}{a b:Int}{k:Value→Prop}(h:k (.bool (decide (a<b)))):ae .num .lss (.int kd a) (.int kd b) k:=⟨_,by simp[dW,gj],h⟩
theorem ae.leq{kd:IntKind}{a b:Int}{k:Value→Prop}(h:k (.bool (decide (a≤b)))):ae .num .leq (.int kd a) (.int kd b) k:=⟨_,by simp[dW,gj],h⟩
theorem ae.gtr{kd:IntKind}{a b:Int}{k:Value→Prop}(h:k (.bool (decide (b<a)))):ae .num .gtr (.int kd a) (.int kd b) k:=⟨_,by simp[dW,gj],h⟩
theorem ae.geq{kd:IntKind}{a b:Int}{k:Value→Prop}(h:k (.bool (decide (b≤a)))):ae .num .geq (.int kd a) (.int kd b) k:=⟨_,by simp[dW,gj],h⟩
theorem ae.add{kd:IntKind}{a b:Int}{k:Value→Prop}(h:k (.int kd (kd.wrap (a+b)))):ae .num .add (.int kd a) (.int kd b) k:=⟨_,by simp[dW,gj],h⟩
theorem ae.sub{kd:IntKind}{a b:Int}{k:Value→Prop}(h:k (.int kd (kd.wrap (a-b)))):ae .num .sub (.int kd a) (.int kd b) k:=⟨_,by simp[dW,gj],h⟩
theorem ae.mul{kd:IntKind}{a b:Int}{k:Value→Prop}(h:k (.int kd (kd.wrap (a*b)))):ae .num .mul (.int kd a) (.int kd b) k:=⟨_,by simp[dW,gj],h⟩
theorem wrap_i64{a:Int}(h: -9223372036854775808≤a∧a≤9223372036854775807):IntKind.i64.wrap a=a:=IntWalk.i64_in _ h
theorem ae.y8{a b:Int}{c:Int}{k:Value→Prop}(e:a-b=c)(hb: -9223372036854775808≤c∧c≤9223372036854775807)(h:k (.int .i64 c)):ae .num .sub (.int .i64 a) (.int .i64 b) k:=
 ae.sub (by rw[e,wrap_i64 hb];exact h)
theorem ae.bC{a:Addr}{k:Value→Prop}(h:k (.bool false)):ae .ptr .eql (.pointer (some a)) (.pointer none) k:=⟨.bool false,by simp[dW],h⟩
theorem ae.mQ{k:Value→Prop}(h:k (.bool true)):ae .ptr .eql (.pointer none) (.pointer none) k:=⟨.bool true,by simp[dW],h⟩
theorem aS.uU(A B C:Hp):aS (A++(B++C)) (B++(A++C)):=.perm (by rw[←List.append_assoc,←List.append_assoc];exact List.perm_append_comm.append_right C)
def flat:List Hp→Hp
 | []=>[]
 | [a]=>a
 |a::b::r=>a++flat (b::r)
theorem iQ:∀(l:List Hp),(flat l).Perm l.flatten
 | []=>.refl _
 | [a]=>by simp[flat]
 |a::b::r=>by
  simp only[flat,List.flatten_cons]
  exact List.Perm.append_left _ (by simpa using iQ (b::r))
theorem aS.Bn(S T:List Hp)(h:S.Perm T):aS (flat S) (flat T):=
 .perm ((iQ S).trans (h.flatten.trans (iQ T).symm))
def rows(l:List (List Value)):Array Value:=l.flatten.toArray
theorem jn{k:Nat}:∀(l:List (List Value)) (i j:Nat),(∀r∈l,r.length=k)→j<k→l.flatten[i*k+j]? =(l[i]?).bind (·[j]?)
 | [],i,j,_,_=>by simp
 |r::l,0,j,h,hj=>by
  have:=h r (by simp)
  simp[List.getElem?_append,this,hj]
 |r::l,i+1,j,h,hj=>by
  have hr:=h r (by simp)
  have ih:=jn l i j (fun x hx=>h x (by simp[hx])) hj
  rw[List.flatten_cons,List.getElem?_append_right (by rw[hr,Nat.succ_mul];omega),hr,show(i+1)*k+j-k=i*k+j by rw[Nat.succ_mul];omega,ih]
  simp
theorem bE{k:Nat}:∀(l:List (List Value)),(∀r∈l,r.length=k)→l.flatten.length=l.length*k
 | [],_=>by simp
 |r::l,h=>by
  have hr:=h r (by simp)
  rw[List.flatten_cons,List.length_append,hr,bE l (fun x hx=>h x (by simp[hx]))]
  simp[Nat.succ_mul];omega
theorem aL{k:Nat}{l:List (List Value)}(h:∀r∈l,r.length=k):(rows l).size=l.length*k:=by simp[rows,bE l h]
theorem df{k:Nat}{l:List (List Value)}(h:∀r∈l,r.length=k){i j:Nat}(hj:j<k):(rows l)[i*k+j]? =(l[i]?).bind (·[j]?):=by
 simp only[rows,List.getElem?_toArray];exact jn l i j h hj
theorem mO{k:Nat}{l:List (List Value)}(h:∀r∈l,r.length=k){i:Nat}{r:List Value}(hi:l[i]? =some r):(rows l).extract (i*k) (i*k+k)=r.toArray:=by
 have hr:=h r (List.mem_of_getElem? hi)
 have hlt:=(List.getElem?_eq_some_iff.1 hi).1
 apply Array.ext'
 apply List.ext_getElem?
 intro j
 by_cases hj:j<k
 ·have:=df h (i:=i) hj
  rw[Array.getElem?_toList,Array.getElem?_extract]
  rw[if_pos (by rw[aL h];have:=Nat.mul_le_mul_right k (Nat.succ_le_of_lt hlt);rw[Nat.succ_mul]at this;omega),this,hi]
  simp
 ·rw[List.getElem?_eq_none (by simp;omega),List.getElem?_eq_none (by simp;omega)]
theorem fY:∀(vs:List Value) (c:List Value) (off:Nat),off+vs.length≤c.length→eV c.toArray off vs=(c.take off++vs++c.drop (off+vs.length)).toArray
 | [],c,off,_=>by simp[eV]
 |v::r,c,off,h=>by
  simp only[List.length_cons]at h
  have hl:off<c.length:=by omega
  have:c.toArray.setIfInBounds off v=(c.set off v).toArray:=by simp
  rw[eV,this,fY r (c.set off v) (off+1) (by simp only[List.length_set];omega)]
  congr 1
  have e1:(c.set off v).take (off+1)=c.take off++[v]:=by
   rw[List.set_eq_take_append_cons_drop,if_pos hl,List.take_append]
   simp[List.take_take,hl,Nat.min_eq_left (Nat.le_of_lt hl)]
  have e2:(c.set off v).drop (off+1+r.length)=c.drop (off+(v::r).length):=by
   rw[List.drop_set_of_lt (by omega)]
   simp only[List.length_cons]
   rw[show off+1+r.length=off+(r.length+1)by omega]
  rw[e1,e2];simp
theorem nL{k:Nat}{l:List (List Value)}(h:∀r∈l,r.length=k){i:Nat}(hi:i<l.length){r:List Value}(hr:r.length=k):eV (rows l) (i*k) r=rows (l.set i r):=by
 unfold rows
 have hlen:=bE l h
 have hle:i*k+k≤l.length*k:=by have:=Nat.mul_le_mul_right k (Nat.succ_le_of_lt hi);rwa [Nat.succ_mul]at this
 rw[fY r l.flatten (i*k) (by rw[hlen,hr];exact hle)]
 congr 1
 have e:l=l.take i++[l[i]]++l.drop (i+1):=by simp
 have hp:(l.take i).flatten.length=i*k:=by
  rw[bE _ (fun x hx=>h x (List.mem_of_mem_take hx))];simp[Nat.min_eq_left (Nat.le_of_lt hi)]
 have hm:l[i].length=k:=h _ (List.getElem_mem hi)
 have e3:l.flatten=(l.take i).flatten++(l[i]++(l.drop (i+1)).flatten):=by
  rw[←List.flatten_cons,←List.flatten_append,←List.drop_eq_getElem_cons hi,List.take_append_drop]
 have e4:(l.set i r).flatten=(l.take i).flatten++(r++(l.drop (i+1)).flatten):=by
  rw[List.set_eq_take_append_cons_drop,if_pos hi];simp[List.flatten_append]
 rw[e4,e3,←hp,List.take_left,←List.drop_drop,List.drop_left,hr,←hm,List.drop_left]
 simp
end
end Go.Sx
namespace Go.Sx
open Go
section
variable {P:Program} {g:Gh}
theorem cv.cm{b:Nat}{o o':Obj}{C C':Hp}(h:cv b o o' C C')(A:Hp):cv b o o' (A++C) (A++C'):=by
 induction A with
 |nil=>exact h
 |cons x A ih=>exact .tail ih
def aD(T:TypeId)(k:Nat)(v:Value)(rs:List (List Value))(C:Hp):Prop:=
 (v=.slice none 0 0∧rs=[]∧C=[])∨
 ∃b aK,v=.slice (some ⟨b,0,none⟩) rs.length (rs.length+aK.length)∧C=[(b,.cells (rows (rs++aK)) T (0,0))]∧(∀r∈rs++aK,r.length=k)
theorem aD.nil(T:TypeId)(k:Nat):aD T k (.slice none 0 0) [] []:=.inl ⟨rfl,rfl,rfl⟩
theorem aD.len{T:TypeId}{k:Nat}{v:Value}{rs:List (List Value)}{C:Hp}(h:aD T k v rs C):∃a c,v=.slice a rs.length c:=by
 rcases h with⟨rfl,rfl,rfl⟩|⟨b,aK,rfl,_⟩
 ·exact⟨_,_,rfl⟩
 ·exact⟨_,_,rfl⟩
theorem aD.cN{T:TypeId}{k:Nat}{v:Value}{rs:List (List Value)}{C:Hp}(h:aD T k v rs C){K:Value→Prop}(hk:K (.int .i64 rs.length)):bM v K:=by
 obtain⟨a,c,rfl⟩:=h.len;exact bM.mk hk
theorem gT{k:Nat}(z:List Value)(hz:z.length=k)(m:Nat):Builtin.zeroCells z.toArray m=rows (List.replicate m z):=by
 apply Array.ext'
 apply List.ext_getElem?
 intro j
 have aF:∀r∈List.replicate m z,r.length=k:=fun r hr=>by rw[List.eq_of_mem_replicate hr,hz]
 by_cases hj:j<m*k
 ·have hk:0<k:=Nat.pos_of_ne_zero fun e=>by simp[e]at hj
  have hd:j/k<m:=Nat.div_lt_of_lt_mul (by rw[Nat.mul_comm];exact hj)
  have hm:j%k<k:=Nat.mod_lt _ hk
  have he:j/k*k+j%k=j:=by rw[Nat.mul_comm];exact Nat.div_add_mod j k
  have:=df aF (i:=j/k) hm
  rw[he]at this
  rw[Array.getElem?_toList,Array.getElem?_toList,this]
  simp only[Builtin.zeroCells,List.size_toArray,hz,List.getElem?_replicate,hd,if_true,Option.bind_some]
  rw[Array.getElem?_map,Array.getElem?_range]
  simp[hj,hz,hm]
 ·rw[List.getElem?_eq_none,List.getElem?_eq_none]
  ·simp only[Array.length_toList,aL aF,List.length_replicate];omega
  ·simp[Builtin.zeroCells,hz];omega
theorem bP(a b:List (List Value)):rows a++rows b=rows (a++b):=by simp[rows,List.flatten_append]
theorem aD.yW{elem k bytes:Nat}{zero:Value}{v:Value}{rs:List (List Value)}{C A B:Hp}(h:aD elem k v rs C){xb:Nat}{r:List Value}{xT:TypeId}{fz:Nat×Nat}{xc:Nat}
 (hx:(xb,Obj.cells r.toArray xT fz)∈A++(C++B))(hr:r.length=k)(h1:∀u∈r,u.oneCell'=true)(hz:∃z:List Value,zero.cells=z.toArray∧z.length=k)
 (hb:(rs.length+1)*bytes≤140737488355328)(bL:rs.length+1≤9223372036854775807){K:Value→Hp→Prop}
 (hk:∀v' C',aD elem k v' (rs++[r]) C'→K v' (A++(C'++B))):App P elem k bytes zero (A++(C++B)) v (.slice (some ⟨xb,0,none⟩) 1 xc) K:=by
 have sk:∀x∈[r],x.length=k:=fun x hx=>by simp at hx;rw[hx];exact hr
 obtain⟨z,BB,yn⟩:=hz
 have hnews:Cells (A++(C++B)) (some ⟨xb,0,none⟩) (1*k) (rows [r]):=.inr ⟨rfl,_,_,_,hx,by simp[hr],by simp[rows];rw[←hr,List.take_length]⟩
 have hnone:∀u∈(rows [r]).toList,u.oneCell'=true:=by simpa[rows]using h1
 rcases h with⟨rfl,rfl,rfl⟩|⟨b,aK,rfl,rfl,aF⟩
 ·refine⟨none,0,0,some ⟨xb,0,none⟩,1,xc,#[],rows [r],rfl,rfl,rfl,hnews,by rw[aL sk];simp,by simp,hnone,fun h=>by omega,fun _=>⟨hb,by omega,fun cG hn b EM=>?_⟩⟩
  rw[show(#[]:Array Value)++rows [r]++Builtin.zeroCells zero.cells (cG-(0+1))=rows ([]++[r]++List.replicate (cG-1) z)by rw[BB,gT z yn];simp only[Nat.zero_add,Array.empty_append,List.nil_append];rw[bP]]
  refine⟨_,aS.uU [(b,_)] A B,hk _ [(b,_)] (.inr ⟨b,List.replicate (cG-1) z,?_,rfl,?_⟩)⟩
  ·simp;omega
  ·intro x hx
   rcases List.mem_append.1 hx with hx|hx
   ·exact sk x hx
   ·rw[List.eq_of_mem_replicate hx,yn]
 ·have hsz:=aL aF
  have gv:∀x∈rs,x.length=k:=fun x hx=>aF x (by simp[hx])
  have hold:rows rs=(rows (rs++aK)).extract 0 (0+rs.length*k):=by
   rw[←bP]
   apply Array.ext'
   have:=aL gv
   have h2:(rows rs).toList.length=rs.length*k:=by rw[Array.length_toList];exact this
   rw[Array.toList_extract,Array.toList_append,List.extract_eq_take_drop,List.drop_zero,Nat.zero_add,Nat.sub_zero,←h2,List.take_left]
  refine⟨some ⟨b,0,none⟩,rs.length,rs.length+aK.length,some ⟨xb,0,none⟩,1,xc,rows rs,rows [r],rfl,rfl,.inr ⟨rfl,_,elem,(0,0),by simp,?_,hold⟩,hnews,by rw[aL sk];simp,aL gv,hnone,fun hfit=>?_,fun hgrow=>⟨hb,by omega,fun cG hn b' EM=>?_⟩⟩
  ·rw[hsz];simp only[List.length_append,Nat.zero_add];exact Nat.mul_le_mul_right _ (by omega)
  ·obtain⟨j0,vE,rfl⟩:∃j0 vE,aK=j0::vE:=by cases aK with|nil=>exact absurd hfit (by simp only[List.length_nil];omega)|cons a b=>exact⟨a,b,rfl⟩
   refine⟨_,elem,_,rfl,?_,((cv.head _).append B).cm A,hk _ [(b,_)] (.inr ⟨b,vE,?_,?_,?_⟩)⟩
   ·rw[hsz];simp[Nat.succ_mul,Nat.add_mul]
   ·simp;omega
   ·have e:(rows [r]).toList=r:=by simp[rows]
    rw[e,show(⟨b,0,none⟩:Addr).off+rs.length*k=rs.length*k by simp,nL aF (by simp) hr]
    simp
   ·intro x hx
    simp only[List.append_assoc,List.cons_append,List.nil_append,List.mem_append,List.mem_cons]at hx
    rcases hx with hx|hx|hx
    ·exact gv x hx
    ·rw[hx];exact hr
    ·exact aF x (by simp[hx])
  ·refine⟨A++([(b',_)]++B),?_,hk _ [(b',_)] (.inr ⟨b',List.replicate (cG-(rs.length+1)) z,?_,rfl,?_⟩)⟩
   ·rw[BB,gT z yn,bP,bP]
    exact fun g w h=>(aS.Bn [[_],A,[_],B] [[_],A,[_],B] ((List.perm_append_comm (l₁:=[_,A]) (l₂:=[_])).append_right [B]|>.trans (.cons _ (.swap _ _ _))) g w h).tail
   ·simp;omega
   ·intro x hx
    rcases List.mem_append.1 hx with hx|hx
    ·rcases List.mem_append.1 hx with hx|hx
     ·exact gv x hx
     ·exact sk x hx
    ·rw[List.eq_of_mem_replicate hx,yn]
end
end Go.Sx
namespace Go.Sx
open Go
section
variable {P:Program} {g:Gh} {H:Hp}
theorem aD.pos{T:TypeId}{k:Nat}{v:Value}{rs:List (List Value)}{C:Hp}(h:aD T k v rs C)(hp:0<rs.length):
  ∃b aK,v=.slice (some ⟨b,0,none⟩) rs.length (rs.length+aK.length)∧C=[(b,.cells (rows (rs++aK)) T (0,0))]∧(∀r∈rs++aK,r.length=k):=by
 rcases h with⟨_,rfl,_⟩|h
 ·simp at hp
 ·exact h
theorem aD.mk{T:TypeId}{k b:Nat}{rs aK:List (List Value)}(aF:∀r∈rs++aK,r.length=k):aD T k (.slice (some ⟨b,0,none⟩) rs.length (rs.length+aK.length)) rs [(b,.cells (rows (rs++aK)) T (0,0))]:=
 .inr ⟨b,aK,rfl,rfl,aF⟩
theorem aD.mk'{T:TypeId}{k b n c:Nat}{rs aK:List (List Value)}(aF:∀r∈rs++aK,r.length=k)(hn:n=rs.length)(hc:c=rs.length+aK.length):aD T k (.slice (some ⟨b,0,none⟩) n c) rs [(b,.cells (rows (rs++aK)) T (0,0))]:=by
 subst hn;subst hc;exact aD.mk aF
theorem aB.row{b i k:Nat}{l:List (List Value)}{T:TypeId}{fz:Nat×Nat}{r:List Value}{K:Value→Prop}(hm:(b,Obj.cells (rows l) T fz)∈H)(aF:∀r∈l,r.length=k)(hi:l[i]? =some r)(h:K (.agg r.toArray)):
  aB k H (.pointer (some ⟨b,0+i*k,none⟩)) K:=by
 have hlt:=(List.getElem?_eq_some_iff.1 hi).1
 refine aB.mk hm ?_ ?_ h
 ·rw[aL aF,Nat.zero_add];have:=Nat.mul_le_mul_right k (Nat.succ_le_of_lt hlt);rwa [Nat.succ_mul]at this
 ·rw[Nat.zero_add];exact mO aF hi
theorem Ld.row{b i j k:Nat}{l:List (List Value)}{T:TypeId}{fz:Nat×Nat}{r:List Value}{v:Value}{K:Value→Prop}(hm:(b,Obj.cells (rows l) T fz)∈H)(aF:∀r∈l,r.length=k)(hi:l[i]? =some r)(hv:r[j]? =some v)(h:K v):
  Ld H (.pointer (some ⟨b,0+i*k+j,none⟩)) K:=by
 have hr:=aF r (List.mem_of_getElem? hi)
 have hj:j<k:=by rw[←hr];exact(List.getElem?_eq_some_iff.1 hv).1
 refine Ld.mk hm ?_ h
 rw[Nat.zero_add,df aF hj,hi];exact hv
theorem Ld.Bp{b i:Nat}{l:List (List Value)}{T:TypeId}{fz:Nat×Nat}{v:Value}{K:Value→Prop}(hm:(b,Obj.cells (rows l) T fz)∈H)(aF:∀r∈l,r.length=1)(hi:l[i]? =some [v])(h:K v):
  Ld H (.pointer (some ⟨b,0+i*1,none⟩)) K:=by
 have:=Ld.row (j:=0) hm aF hi rfl h
 simpa using this
theorem St.row{b i k:Nat}{l:List (List Value)}{T:TypeId}{r:List Value}{H':Hp}{K:Hp→Prop}(hu:cv b (.cells (rows l) T (0,0)) (.cells (rows (l.set i r)) T (0,0)) H H')(aF:∀r∈l,r.length=k)(hi:i<l.length)
 (hr:r.length=k)(h1:∀v∈r,v.oneCell'=true)(h:K H'):St k H (.pointer (some ⟨b,0+i*k,none⟩)) (.agg r.toArray) K:=by
 refine St.mk hu (by simp[Value.cells,hr]) ?_ (by simpa[Value.cells]using h1) ?_ h
 ·rw[aL aF,Nat.zero_add];have:=Nat.mul_le_mul_right k (Nat.succ_le_of_lt hi);rwa [Nat.succ_mul]at this
 ·simp only[Value.cells,Nat.zero_add];exact nL aF hi hr
theorem kZ{k:Nat}{l:List (List Value)}(h:∀r∈l,r.length=k){i j:Nat}{r:List Value}(hi:l[i]? =some r)(hj:j<k)(v:Value):(rows l).setIfInBounds (i*k+j) v=rows (l.set i (r.set j v)):=by
 have hr:=h r (List.mem_of_getElem? hi)
 have hlt:=(List.getElem?_eq_some_iff.1 hi).1
 have Ca:∀x∈l.set i (r.set j v),x.length=k:=fun x hx=>by
  rcases List.mem_or_eq_of_mem_set hx with hx|hx
  ·exact h x hx
  ·rw[hx,List.length_set];exact hr
 have hk:0<k:=by omega
 apply Array.ext'
 apply List.ext_getElem?
 intro m
 rw[Array.getElem?_toList,Array.getElem?_toList,Array.getElem?_setIfInBounds]
 have hm:m%k<k:=Nat.mod_lt _ hk
 have he:m/k*k+m%k=m:=by rw[Nat.mul_comm];exact Nat.div_add_mod m k
 have g1:=df h (i:=m/k) hm
 have g2:=df Ca (i:=m/k) hm
 rw[he]at g1 g2
 rw[g1,g2]
 by_cases e:i*k+j=m
 ·have e1:m/k=i:=by rw[←e,Nat.mul_comm,Nat.mul_add_div hk,Nat.div_eq_of_lt hj,Nat.add_zero]
  have e2:m%k=j:=by rw[←e,Nat.mul_comm,Nat.mul_add_mod,Nat.mod_eq_of_lt hj]
  rw[if_pos e,if_pos (by rw[aL h];have:=Nat.mul_le_mul_right k (Nat.succ_le_of_lt hlt);rw[Nat.succ_mul]at this;omega),e1,e2]
  simp[hlt,hr,hj]
 ·rw[if_neg e]
  by_cases e1:m/k=i
  ·have e2:j≠m%k:=fun e2=>e (by rw[e2,←e1];exact he)
   rw[e1,hi]
   simp[hlt,e2]
  ·rw[List.getElem?_set_ne (fun x=>e1 x.symm)]
theorem St.cell{b i j k:Nat}{l:List (List Value)}{T:TypeId}{r:List Value}{v:Value}{H':Hp}{K:Hp→Prop}(hu:cv b (.cells (rows l) T (0,0)) (.cells (rows (l.set i (r.set j v))) T (0,0)) H H')(aF:∀r∈l,r.length=k)
 (hi:l[i]? =some r)(hj:j<k)(h1:v.oneCell'=true)(h:K H'):St 1 H (.pointer (some ⟨b,0+i*k+j,none⟩)) v K:=by
 have hlt:=(List.getElem?_eq_some_iff.1 hi).1
 have hc:v.cells=#[v]:=by cases v<;>first|rfl|(simp[Value.oneCell']at h1)
 refine St.mk hu (by simp[hc]) ?_ (by simp[hc,h1]) ?_ h
 ·rw[aL aF,Nat.zero_add];have:=Nat.mul_le_mul_right k (Nat.succ_le_of_lt hlt);rw[Nat.succ_mul]at this;omega
 ·simp only[hc,Nat.zero_add,eV];exact kZ aF hi hj v
theorem St.one{b off:Nat}{c c':Array Value}{T:TypeId}{v:Value}{H':Hp}{K:Hp→Prop}(hu:cv b (.cells c T (0,0)) (.cells c' T (0,0)) H H')(h1:v.oneCell'=true)(hs:off<c.size)(hc:c.setIfInBounds off v=c')(h:K H'):
  St 1 H (.pointer (some ⟨b,off,none⟩)) v K:=by
 have hv:v.cells=#[v]:=by cases v<;>first|rfl|(simp[Value.oneCell']at h1)
 exact St.mk hu (by simp[hv]) (by omega) (by simp[hv,h1]) (by simpa[hv,eV]using hc) h
theorem St.whole{b n:Nat}{c:Array Value}{T:TypeId}{r:List Value}{H':Hp}{K:Hp→Prop}(hu:cv b (.cells c T (0,0)) (.cells r.toArray T (0,0)) H H')(hs:c.size=n)(hr:r.length=n)(h1:∀v∈r,v.oneCell'=true)(h:K H'):
  St n H (.pointer (some ⟨b,0,none⟩)) (.agg r.toArray) K:=by
 refine St.mk hu (by simp[Value.cells,hr]) (by omega) (by simpa[Value.cells]using h1) ?_ h
 have:=fY r c.toList 0 (by simp;omega)
 rw[Array.toArray_toList]at this
 simp only[Value.cells]
 rw[this]
 simp[List.drop_eq_nil_of_le,hr,hs]
theorem aB.whole{b n:Nat}{r:List Value}{T:TypeId}{fz:Nat×Nat}{K:Value→Prop}(hm:(b,Obj.cells r.toArray T fz)∈H)(hr:r.length=n)(h:K (.agg r.toArray)):aB n H (.pointer (some ⟨b,0,none⟩)) K:=
 aB.mk hm (by simp[hr]) (by simp;rw[←hr,List.take_length]) h
theorem fh{α β:Type}(f:α→β):∀(l:List α) (i:Nat),(l.map f).eraseIdx i=(l.eraseIdx i).map f
 | [],_=>rfl
 |x::l,0=>rfl
 |x::l,i+1=>by simp[fh f l i]
def x8{β:Type}(kd:IntKind)(enc:β→Value)(m:List (Int×β×Nat)):Array MapEntry:=(m.map fun x=>({key:=.int kd x.1,val:=enc x.2.1,born:=x.2.2}:MapEntry)).toArray
def Bw{β:Type}(m:List (Int×β×Nat))(x:Int):Option β:=(m.find? (fun y=>x==y.1)).map (·.2.1)
def FD{β:Type}(kd:IntKind)(enc:β→Value)(v:Value)(f:Int→Option β)(C:Hp):Prop:=
 (v=.map none∧C=[]∧f=fun _=>none)∨
 ∃b m ck,v=.map (some b)∧C=[(b,.map (x8 kd enc m) ck)]∧(m.map Prod.fst).Nodup∧f=Bw m
end
end Go.Sx
namespace Go.Sx
open Go
section
variable {P:Program} {g:Gh} {H:Hp}
theorem kv(off:Nat):∀(r:List Value) (i:Nat) (c:Array Value),(r.zipIdx i).foldl (fun cs (x:Value×Nat)=>cs.setIfInBounds (off+x.2) x.1) c=eV c (off+i) r
 | [],i,c=>rfl
 |v::r,i,c=>by
  rw[List.zipIdx_cons,List.foldl_cons,kv off r (i+1)]
  rfl
theorem tC(off:Nat)(a c:Array Value):a.zipIdx.foldl (fun cs (x:Value×Nat)=>cs.setIfInBounds (off+x.2) x.1) c=eV c off a.toList:=by
 rw[←Array.foldl_toList]
 have:a.zipIdx.toList=a.toList.zipIdx 0:=by simp
 rw[this,kv off a.toList 0 c];rfl
def jL:List Value→Nat→List Value→List Value
 |c,_,[]=>c
 |c,off,v::r=>jL (c.set off v) (off+1) r
theorem eU:∀(r c:List Value) (off:Nat),eV c.toArray off r=(jL c off r).toArray
 | [],c,off=>rfl
 |v::r,c,off=>by
  have:c.toArray.setIfInBounds off v=(c.set off v).toArray:=by simp
  rw[eV,jL,this,eU r]
def gy(place:Nat→Option (Nat×Nat)):List Value→List (Nat×Value)→Option (List Value)
 |c,[]=>some c
 |c,(i,v)::r=>
  match place i with
  |none=>none
  |some (off,size)=>cond (Nat.beq v.cells.toList.length size&&Nat.ble (off+v.cells.toList.length) c.length) (gy place (jL c off v.cells.toList) r) none
theorem fg{place:Nat→Option (Nat×Nat)}:∀(r:List (Nat×Value)) (c cs:List Value),gy place c r=some cs→Instr.fill place c.toArray r=some cs.toArray
 | [],c,cs,h=>by simp only[gy,Option.some.injEq]at h;subst h;rfl
 |(i,v)::r,c,cs,h=>by
  simp only[gy]at h
  simp only[Instr.fill]
  split at h
  ·simp at h
  ·rename_i off size hp
   cases hc:(Nat.beq v.cells.toList.length size&&Nat.ble (off+v.cells.toList.length) c.length)<;>simp only[hc,cond_true,cond_false,reduceCtorEq]at h
   simp only[Bool.and_eq_true]at hc
   have h1:=Nat.eq_of_beq_eq_true hc.1
   have h2:=Nat.le_of_ble_eq_true hc.2
   have h3:v.cells.toList.length=v.cells.size:=Array.length_toList
   have hsz:v.cells.size=size:=by rw[←h3];exact h1
   have hle:off+v.cells.size≤c.length:=by rw[←h3];exact h2
   simp only[hp]
   have v7:(decide (v.cells.size≠size)||decide (off+v.cells.size>c.toArray.size))=false:=by
    rw[Bool.or_eq_false_iff];exact⟨by simp[hsz],by simp only[List.size_toArray,decide_eq_false_iff_not];omega⟩
   rw[v7]
   simp only[Bool.false_eq_true,if_false]
   rw[tC,eU]
   exact fg r _ cs h
def gY(P:Program):List Field→Option (List (Nat×Nat))
 | []=>some []
 |f::r=>match bR P f.type,gY P r with
  |some n,some l=>some ((f.offset,n)::l)
  |_,_=>none
def wM(P:Program)(t:TypeId)(parts:List (Nat×Value)):Option (List Value):=
 match P.underlying t,dc P t with
 |some (.struct fs),some z=>match gY P fs.toList with
  |some pl=>gy (fun i=>pl[i]?) z.cells.toList parts
  |none=>none
 |_,_=>none
theorem iZ:∀(fs:List Field) (pl:List (Nat×Nat)),gY P fs=some pl→∀w,(fs.mapM fun f=>(do pure (f.offset,←sizeOf f.type):Sem (Nat×Nat))).run P w=.ok pl w
 | [],pl,h,w=>by simp only[gY,Option.some.injEq]at h;subst h;rfl
 |f::r,pl,h,w=>by
  simp only[gY]at h
  split at h
  ·rename_i n l hn hl
   simp only[Option.some.injEq]at h;subst h
   obtain⟨i,hi,hin⟩:=aI hn
   have ih:=iZ r l hl w
   simp only[List.mapM_cons,Sem.run_bind,run_sizeOf hi,Result.andThen_ok,Sem.run_pure,hin,ih]
  ·simp at h
theorem Build.mk{t:TypeId}{parts:List (Nat×Value)}{cs:List Value}{k:Value→Prop}(hb:wM P t parts=some cs)(h:k (.agg cs.toArray)):Build P t parts k:=by
 refine⟨_,fun w=>?_,h⟩
 unfold wM at hb
 split at hb
 ·rename_i fs z hu hz
  split at hb
  ·rename_i pl BM
   obtain⟨i,hi,m0⟩:=bK hz
   have hf:=fg _ _ _ hb
   have hp:=iZ fs.toList pl BM w
   simp only[Instr.build,Sem.run_bind,cy hi m0,Result.andThen_ok,run_underlying hu]
   have e2:((fs.mapM fun f=>(do pure (f.offset,←sizeOf f.type):Sem (Nat×Nat))).run P w)=.ok pl.toArray w:=by
    rw[Array.mapM_eq_mapM_toList]
    simp only[Sem.run_map,hp,Result.andThen_ok]
   rw[e2]
   show Sem.run P _ w=_
   have e3:Instr.fill (fun x=>pl.toArray[x]?) z.cells parts=some cs.toArray:=by
    simpa using hf
   simp only[e3]
   rfl
  ·simp at hb
 ·simp at hb
theorem an.one{t e k:Nat}{z:Value}{r:List Value}{K:Value→Hp→Prop}(h1:P.underlying t=some (.slice e))(h2:bR P e=some k)(h3:dc P e=some z)(hk:0<k∧k≤16777216)(hr:r.length=k)
 (h:∀b,K (.slice (some ⟨b,0,none⟩) 1 1) ((b,.cells r.toArray e (0,0))::H)):an P t 1 [(0,.agg r.toArray)] H K:=by
 refine⟨r.toArray,e,k,z,h1,h2,h3,by omega,?_,fun b _=>h b⟩
 have:((Array.range (1*k)).map (z.cells[· %z.cells.size]!))=(((Array.range (1*k)).map (z.cells[· %z.cells.size]!)).toList).toArray:=by rw[Array.toArray_toList]
 rw[this]
 generalize hc:((Array.range (1*k)).map (z.cells[· %z.cells.size]!)).toList=c
 have hlen:c.length=k:=by rw[←hc];simp
 refine fg _ _ _ ?_
 simp only[gy,Value.cells]
 have hb:(Nat.beq r.toArray.toList.length k&&Nat.ble (0*k+r.toArray.toList.length) c.length)=true:=by simp[hr,hlen]
 rw[hb]
 simp only[cond_true,Option.some.injEq]
 have:=fY r c 0 (by omega)
 rw[eU]at this
 have h5:jL c 0 r=List.take 0 c++r++List.drop (0+r.length) c:=by simpa using congrArg Array.toList this
 simp only[Nat.zero_mul]
 rw[h5]
 simp[List.drop_eq_nil_of_le,hr,hlen]
end
end Go.Sx
namespace Go.Sx
open Go
section
variable {P:Program} {g:Gh} {H:Hp}
theorem dm.upto{size n c h:Nat}{a:Option Addr}{kd:IntKind}{k:Value→Prop}(hh:h≤c)(hk:k (.slice a h c)):dm size (.slice a n c) none (some (.int kd (h:Int))) k:=by
 refine⟨a,n,c,0,h,rfl,rfl,rfl,by omega,by omega,by omega,?_⟩
 have:(if c=(0:Int).toNat then a else a.map (·.add ((0:Int).toNat*size)))=a:=by
  split
  ·rfl
  ·simp only[Int.toNat_zero,Nat.zero_mul]
   cases a with
   |none=>rfl
   |some x=>simp[Addr.add_zero']
 rw[this]
 simpa using hk
end
end Go.Sx
namespace Go.Sx
open Go
section
variable {P:Program} {g:Gh} {H:Hp}
inductive aT(C:Hp):Hp→(Hp→Hp)→Prop
 |here:aT C C (fun X=>X)
 |left {A:Hp}:aT C (C++A) (fun X=>X++A)
 |cons {x:Nat×Obj} {H:Hp} {c:Hp→Hp} (h:aT C H c):aT C (x::H) (fun X=>x::c X)
 |app {A H:Hp} {c:Hp→Hp} (h:aT C H c):aT C (A++H) (fun X=>A++c X)
theorem aT.spec{C H:Hp}{c:Hp→Hp}(h:aT C H c):H=c C∧∃F,∀X,(c X).Perm (X++F):=by
 induction h with
 |here=>exact⟨rfl,[],fun X=>by simp⟩
 | @left A=>exact⟨rfl,A,fun X=>.refl _⟩
 | @cons x H c h ih=>
  obtain⟨h1,F,h2⟩:=ih
  exact⟨by rw[h1],x::F,fun X=>(List.Perm.cons x (h2 X)).trans List.perm_middle.symm⟩
 | @app A H c h ih=>
  obtain⟨h1,F,h2⟩:=ih
  refine⟨by rw[h1],A++F,fun X=>(List.Perm.append_left A (h2 X)).trans ?_⟩
  rw[←List.append_assoc,←List.append_assoc];exact List.perm_append_comm.append_right F
theorem aT.gK{C H:Hp}{c:Hp→Hp}(h:aT C H c){X Y:Hp}(e:aS X Y):aS (c X) (c Y):=by
 obtain⟨_,F,hp⟩:=h.spec
 exact(aS.perm (hp X)).trans ((e.frame F).trans (.perm (hp Y).symm))
theorem aS.cons{x:Nat×Obj}{A B:Hp}(h:aS A B):aS (x::A) (x::B):=aS.cZ h [x]
theorem aS.skip{x:Nat×Obj}{A B:Hp}(h:aS A B):aS (x::A) B:=aS.tail.trans h
theorem aS.assoc{A B C:Hp}:aS ((A++B)++C) (A++(B++C)):=fun _ _ h=>by rw[←List.append_assoc];exact h
theorem aV.frame{f:FuncId}{args:Array Value}{C F:Hp}{R:Ending→Hp→Prop}(h:∀g,aV P g f args C R):aV P g f args (C++F) (fun e H'=>∃C',H'=C'++F∧R e C'):=by
 intro w hw
 exact((h (g.add F)) w (Own.cI.1 hw)).mono fun e w' ⟨H',ho,hr⟩=>⟨_,Own.cI.2 ho,H',rfl,hr⟩
theorem aV.hole{f:FuncId}{args:Array Value}{C H:Hp}{c:Hp→Hp}{R:Ending→Hp→Prop}(hh:aT C H c)(h:∀g,aV P g f args C R):aV P g f args H (fun e H'=>∃C',H'=c C'∧R e C'):=by
 obtain⟨rfl,F,hp⟩:=hh.spec
 exact((aV.frame (F:=F) h).pre (.perm (hp C))).post fun e H' ⟨C',h1,h2⟩=>⟨c C',by rw[h1];exact .perm (hp C').symm,C',rfl,h2⟩
def Fc(P:Program)(f:FuncId)(args:Array Value)(C:Hp)(Q:Value→Hp→Prop):Prop:=
 ∀g,aV P g f args C (fun e H'=>∃v gO,e=.returned v∧aS H' gO∧Q v gO)
def aY(Q:Value→Hp→Prop):Ending→Hp→Prop:=fun e H'=>∃v gO,e=.returned v∧aS H' gO∧Q v gO
theorem aY.mk{Q:Value→Hp→Prop}{v:Value}{H gO:Hp}(he:aS H gO)(h:Q v gO):aY Q (.returned v) H:=⟨v,gO,rfl,he,h⟩
theorem aY.here{Q:Value→Hp→Prop}{v:Value}{H:Hp}(h:Q v H):aY Q (.returned v) H:=⟨v,H,rfl,.refl _,h⟩
theorem Fc.mono{f:FuncId}{args:Array Value}{C:Hp}{Q Q':Value→Hp→Prop}(h:Fc P f args C Q)(hq:∀v H,Q v H→Q' v H):Fc P f args C Q':=
 fun g=>(h g).mono fun e H' ⟨v,gO,h1,h2,h3⟩=>⟨v,gO,h1,h2,hq _ _ h3⟩
def Rd(P:Program)(f:FuncId)(args:Array Value)(B:Hp)(Q:Value→Prop):Prop:=Fc P f args B (fun v H=>H=B∧Q v)
theorem aa.fn{f:FuncId}{args:Array Value}{C H:Hp}{c:Hp→Hp}{Q:Value→Hp→Prop}{K:Value→Hp→Prop}{KP:List PanicEntry→Hp→Prop}(hh:aT C H c)(hc:Fc P f args C Q)
 (hk:∀v C',Q v C'→K v (c C')):aa P g f args H K KP:=
 (aV.hole hh hc).post fun e H' ⟨C',h1,v,Jd,h2,h3,h4⟩=>⟨c Jd,by rw[h1];exact hh.gK h3,by subst h2;exact hk _ _ h4⟩
theorem aa.rd{f:FuncId}{args:Array Value}{B H:Hp}{c:Hp→Hp}{Q:Value→Prop}{K:Value→Hp→Prop}{KP:List PanicEntry→Hp→Prop}(hh:aT B H c)(hc:Rd P f args B Q)
 (hk:∀v,Q v→K v H):aa P g f args H K KP:=
 aa.fn hh hc fun v C' ⟨h1,h2⟩=>by subst h1;rw[←hh.spec.1];exact hk v h2
theorem bj.of{fv:Value}{args:Array Value}{K:Value→Hp→Prop}{KP:List PanicEntry→Hp→Prop}{f:FuncId}{first captured:Array Value}(hf:fv=.func (.func f) first captured)(hc:aG P f=true)
 (h:aa P g f (first++args++captured) H K KP):bj P g fv args H K KP:=⟨f,first,captured,hf,hc,h⟩
theorem DR.self{body:Hp→Prop}(h:body H):DR H body:=⟨H,.refl _,h⟩
theorem DR.of{R:Hp}{body:Hp→Prop}(e:aS H R)(h:body R):DR H body:=⟨R,e,h⟩
def At(B:Hp)(p:Value)(r:List Value):Prop:=∃b o c T fz,p=.pointer (some ⟨b,o,none⟩)∧(b,Obj.cells c T fz)∈B∧∀j v,r[j]? =some v→c[o+j]? =some v
theorem Ld.at{p v:Value}{r:List Value}{B:Hp}{k:Value→Prop}(h:At B p (v::r))(hs:∀x∈B,x∈H)(hk:k v):Ld H p k:=by
 obtain⟨b,o,c,T,fz,h1,h2,h3⟩:=h
 exact⟨b,o,c,T,fz,v,h1,hs _ h2,by simpa using h3 0 v rfl,hk⟩
theorem aB.at{p:Value}{r:List Value}{B:Hp}{n:Nat}{k:Value→Prop}(h:At B p r)(hn:r.length=n)(hp:0<n)(hs:∀x∈B,x∈H)(hk:k (.agg r.toArray)):aB n H p k:=by
 obtain⟨b,o,c,T,fz,h1,h2,h3⟩:=h
 have hsz:o+n≤c.size:=by
  have:=h3 (n-1) (r[n-1]'(by omega)) (List.getElem?_eq_getElem _)
  have:=(Array.getElem?_eq_some_iff.1 this).1
  omega
 refine⟨b,o,c,T,fz,h1,hs _ h2,hsz,?_⟩
 have:c.extract o (o+n)=r.toArray:=by
  apply Array.ext
  ·simp;omega
  ·intro i Dr xm
   simp only[List.size_toArray]at xm
   have:=h3 i r[i] (List.getElem?_eq_getElem _)
   rw[Array.getElem_extract]
   have:=(Array.getElem?_eq_some_iff.1 this).2
   simpa using this
 rw[this];exact hk
def Sl(k:Nat)(B:Hp)(v:Value)(rs:List (List Value)):Prop:=
 (∀r∈rs,r.length=k)∧
 ((∃a cap,v=.slice a 0 cap∧rs=[])∨∃b o cap c T fz,v=.slice (some ⟨b,o,none⟩) rs.length cap∧rs.length≤cap∧(b,Obj.cells c T fz)∈B∧o+rs.length*k≤c.size∧∀i r,rs[i]? =some r→∀j v,r[j]? =some v→c[o+i*k+j]? =some v)
theorem Sl.mono{k:Nat}{B B':Hp}{v:Value}{rs:List (List Value)}(h:Sl k B v rs)(hs:∀x∈B,x∈B'):Sl k B' v rs:=by
 obtain⟨h0,h⟩:=h
 refine⟨h0,?_⟩
 rcases h with h|⟨b,o,cap,c,T,fz,h1,h2,h3,h4⟩
 ·exact .inl h
 ·exact .inr ⟨b,o,cap,c,T,fz,h1,h2,hs _ h3,h4⟩
theorem Sl.nil(k:Nat)(B:Hp):Sl k B (.slice none 0 0) []:=⟨by simp,.inl ⟨_,_,rfl,rfl⟩⟩
theorem Sl.shape{k:Nat}{B:Hp}{v:Value}{rs:List (List Value)}(h:Sl k B v rs):∃a cap,v=.slice a rs.length cap∧rs.length≤cap:=by
 rcases h.2 with⟨a,cap,rfl,rfl⟩|⟨b,o,cap,c,T,fz,h1,h2,_⟩
 ·exact⟨_,_,rfl,Nat.zero_le _⟩
 ·exact⟨_,_,h1,h2⟩
theorem Sl.cN{k:Nat}{B:Hp}{v:Value}{rs:List (List Value)}(h:Sl k B v rs){K:Value→Prop}(hk:K (.int .i64 rs.length)):bM v K:=by
 obtain⟨a,c,rfl,_⟩:=h.shape;exact bM.mk hk
theorem ah.sl{k:Nat}{B:Hp}{v:Value}{rs:List (List Value)}{kd:IntKind}{i:Nat}{r:List Value}{K:Value→Prop}(h:Sl k B v rs)(hi:rs[i]? =some r)(hk:∀p,At B p r→K p):ah k v (.int kd (i:Int)) K:=by
 have hlt:=(List.getElem?_eq_some_iff.1 hi).1
 rcases h.2 with⟨a,cap,rfl,rfl⟩|⟨b,o,cap,c,T,fz,h1,h2,h3,h4,h5⟩
 ·simp at hlt
 ·subst h1
  refine ah.nat (by omega) (hk _ ⟨b,_,c,T,fz,rfl,h3,fun j v hj=>h5 i r hi j v hj⟩)
theorem Sl.cells{k:Nat}{B:Hp}{v:Value}{rs:List (List Value)}(h:Sl k B v rs):∃a cap,v=.slice a rs.length cap∧Cells B a (rs.length*k) (rows rs):=by
 rcases h.2 with⟨a,cap,rfl,rfl⟩|⟨b,o,cap,c,T,fz,h1,h2,h3,h4,h5⟩
 ·refine⟨a,cap,rfl,?_⟩
  cases a with
  |none=>simp[Cells,rows]
  |some a=>exact .inl ⟨by simp,rfl⟩
 ·refine⟨_,cap,h1,.inr ⟨rfl,c,T,fz,h3,h4,?_⟩⟩
  apply Array.ext
  ·rw[aL h.1];simp;omega
  ·intro i Dr xm
   rw[aL h.1]at Dr
   have hk:0<k:=Nat.pos_of_ne_zero fun e=>by simp[e]at Dr
   have hd:i/k<rs.length:=Nat.div_lt_of_lt_mul (by rw[Nat.mul_comm];exact Dr)
   have hm:i%k<k:=Nat.mod_lt _ hk
   have he:i/k*k+i%k=i:=by rw[Nat.mul_comm];exact Nat.div_add_mod i k
   have hr:=h.1 rs[i/k] (List.getElem_mem hd)
   have g1:=df h.1 (i:=i/k) hm
   rw[he,List.getElem?_eq_getElem hd,Option.bind_some,List.getElem?_eq_getElem (by omega)]at g1
   have g2:=h5 (i/k) _ (List.getElem?_eq_getElem hd) (i%k) _ (List.getElem?_eq_getElem (by omega))
   rw[Nat.add_assoc,he]at g2
   have e1:=(Array.getElem?_eq_some_iff.1 g1).2
   have e2:=(Array.getElem?_eq_some_iff.1 g2).2
   rw[Array.getElem_extract]
   exact e1.trans e2.symm
theorem Sl.lF{T:TypeId}{k:Nat}{v:Value}{rs:List (List Value)}{C:Hp}(h:aD T k v rs C)(hk:0<k):Sl k C v rs:=by
 rcases h with⟨rfl,rfl,rfl⟩|⟨b,aK,rfl,rfl,aF⟩
 ·exact Sl.nil _ _
 ·refine⟨fun r hr=>aF r (by simp[hr]),.inr ⟨b,0,_,rows (rs++aK),T,(0,0),rfl,by omega,by simp,?_,fun i r hi j v hj=>?_⟩⟩
  ·rw[aL aF,List.length_append,Nat.zero_add];exact Nat.mul_le_mul_right _ (by omega)
  ·have hlt:=(List.getElem?_eq_some_iff.1 hi).1
   have hr:=aF r (List.mem_append_left _ (List.mem_of_getElem? hi))
   have zv:j<k:=by rw[←hr];exact(List.getElem?_eq_some_iff.1 hj).1
   rw[Nat.zero_add,df aF zv,List.getElem?_append_left hlt,hi];exact hj
end
end Go.Sx
namespace Go.Sx
open Go
def cO:IntKind→Nat
 | .i8=>128| .i16=>32768| .i32=>2147483648| .i64=>9223372036854775808
 | .u8=>256| .u16=>65536| .u32=>4294967296| .u64=>18446744073709551616
theorem cQ{kd:IntKind}{n:Nat}(h:n<cO kd):kd.wrap (n:Int)=n:=by
 cases kd<;>simp only[cO]at h<;>simp only[IntKind.wrap,IntKind.bits,IntKind.signed,Bool.false_and,Bool.true_and,Bool.false_eq_true,if_false,decide_eq_true_eq]
 all_goals first
  |omega
  |(rw[if_neg (by simp;omega)];omega)
theorem wrap_u64(n:Int):IntKind.u64.wrap n=n%18446744073709551616:=by simp[IntKind.wrap,IntKind.bits,IntKind.signed]
theorem vy(kd:IntKind):cO kd≤2^kd.bits:=by cases kd<;>decide
def lq(a b:Nat):Nat:=a^^^(a&&&b)
theorem eS(a b j:Nat):(lq a b).testBit j=(a.testBit j&& !b.testBit j):=by
 unfold lq;rw[Nat.testBit_xor,Nat.testBit_and];cases a.testBit j<;>cases b.testBit j<;>rfl
theorem sE(a b:Nat):lq a b≤a:=by
 have:lq a b=a&&&lq a b:=by
  apply Nat.eq_of_testBit_eq;intro j
  rw[Nat.testBit_and,eS];cases a.testBit j<;>simp
 rw[this];exact Nat.and_le_left
theorem bits_nat{kd:IntKind}{a b:Nat}(ha:a<cO kd)(hb:b<cO kd):
  bits .and kd a b=((a&&&b:Nat):Int)∧bits .or kd a b=((a|||b:Nat):Int)∧bits .xor kd a b=((a^^^b:Nat):Int)∧bits .andNot kd a b=((lq a b:Nat):Int):=by
 have hl:=vy kd
 have h1:(BitVec.ofInt kd.bits (a:Int)).toNat=a:=by rw[BitVec.ofInt_natCast,BitVec.toNat_ofNat,Nat.mod_eq_of_lt (by omega)]
 have h2:(BitVec.ofInt kd.bits (b:Int)).toNat=b:=by rw[BitVec.ofInt_natCast,BitVec.toNat_ofNat,Nat.mod_eq_of_lt (by omega)]
 obtain⟨n,hn⟩:∃n,cO kd=2^n:=by cases kd<;>first|exact⟨7,rfl⟩|exact⟨15,rfl⟩|exact⟨31,rfl⟩|exact⟨63,rfl⟩|exact⟨8,rfl⟩|exact⟨16,rfl⟩|exact⟨32,rfl⟩|exact⟨64,rfl⟩
 rw[hn]at ha hb
 refine⟨?_,?_,?_,?_⟩
 ·simp only[bits,BitVec.toNat_and,h1,h2]
  exact cQ (by rw[hn];exact Nat.lt_of_le_of_lt Nat.and_le_left ha)
 ·simp only[bits,BitVec.toNat_or,h1,h2]
  exact cQ (by rw[hn];exact Nat.or_lt_two_pow ha hb)
 ·simp only[bits,BitVec.toNat_xor,h1,h2]
  exact cQ (by rw[hn];exact Nat.xor_lt_two_pow ha hb)
 ·simp only[bits]
  have:(BitVec.ofInt kd.bits (a:Int) &&& ~~~BitVec.ofInt kd.bits (b:Int)).toNat=lq a b:=by
   apply Nat.eq_of_testBit_eq;intro j
   rw[eS,←BitVec.getLsbD,BitVec.getLsbD_and,BitVec.getLsbD_not,BitVec.getLsbD,BitVec.getLsbD,h1,h2]
   by_cases hj:j<kd.bits
   ·simp[hj]
   ·have:a.testBit j=false:=Nat.testBit_lt_two_pow (Nat.lt_of_lt_of_le ha (by rw[←hn];exact Nat.le_trans hl (Nat.pow_le_pow_right (by decide) (by omega))))
    simp[this]
  rw[this]
  exact cQ (by rw[hn];exact Nat.lt_of_le_of_lt (sE a b) ha)
section
variable {kd mW:IntKind} {a b:Nat} {k:Value→Prop}
theorem ae.yY(ha:a<cO kd)(hb:b<cO kd)(h:k (.int kd ((a&&&b:Nat):Int))):ae .num .and (.int kd a) (.int kd b) k:=⟨_,by simp[dW,gj,(bits_nat ha hb).1],h⟩
theorem ae.zW(ha:a<cO kd)(hb:b<cO kd)(h:k (.int kd ((a^^^b:Nat):Int))):ae .num .xor (.int kd a) (.int kd b) k:=⟨_,by simp[dW,gj,(bits_nat ha hb).2.2.1],h⟩
theorem ae.pg(ha:a<cO kd)(h:k (.int kd ((a>>>b:Nat):Int))):ae .num .shr (.int kd a) (.int mW b) k:=by
 refine⟨_,?_,h⟩
 have h0:¬((b:Int)<0):=by omega
 simp only[dW,h0,if_false,Option.some.injEq,Value.int.injEq,true_and,Int.toNat_natCast]
 rw[Int.fdiv_eq_ediv_of_nonneg _ (Int.le_of_lt (Int.pow_pos (by decide))),Nat.shiftRight_eq_div_pow]
 have hl:=vy kd
 by_cases hb:b≤kd.bits
 ·rw[Nat.min_eq_left hb];push_cast;rfl
 ·rw[Nat.min_eq_right (by omega)]
  have h1:a/2^kd.bits=0:=Nat.div_eq_of_lt (by omega)
  have h2:a/2^b=0:=Nat.div_eq_of_lt (Nat.lt_of_lt_of_le (by omega) (Nat.pow_le_pow_right (by decide) (by omega:kd.bits≤b)))
  have:(a:Int) / (2^kd.bits:Int)=((a/2^kd.bits:Nat):Int):=by push_cast;rfl
  rw[this,h1,h2]
theorem ae.sR(h:k (.int .u64 (((a<<<b)%18446744073709551616:Nat):Int))):ae .num .shl (.int .u64 a) (.int mW b) k:=by
 refine⟨_,?_,h⟩
 have h0:¬((b:Int)<0):=by omega
 simp only[dW,h0,if_false,Option.some.injEq,Value.int.injEq,true_and,Int.toNat_natCast,IntKind.bits,wrap_u64]
 rw[Nat.shiftLeft_eq]
 by_cases hb:b≤64
 ·rw[Nat.min_eq_left hb,Int.natCast_emod,Int.natCast_mul,Int.natCast_pow];rfl
 ·rw[Nat.min_eq_right (by omega)]
  have h1:(a*2^b)%18446744073709551616=0:=by
   have:2^b=18446744073709551616*2^(b-64):=by rw[show(18446744073709551616:Nat)=2^64 by rfl,←Nat.pow_add];congr 1;omega
   rw[this,Nat.mul_left_comm];exact Nat.mul_mod_right _ _
  rw[h1]
  exact Int.mul_emod_left _ _
theorem ae.CS(hr:a+b<cO kd)(h:k (.int kd ((a+b:Nat):Int))):ae .num .add (.int kd a) (.int kd b) k:=by
 refine ae.add ?_
 have:((a:Int)+(b:Int))=((a+b:Nat):Int):=by push_cast;rfl
 rw[this,cQ hr];exact h
theorem ae.xG(ha:a<cO kd)(hb:b≤a)(h:k (.int kd ((a-b:Nat):Int))):ae .num .sub (.int kd a) (.int kd b) k:=by
 refine ae.sub ?_
 have:((a:Int) -(b:Int))=((a-b:Nat):Int):=by omega
 rw[this,cQ (by omega)];exact h
theorem ae.D5(hr:a*b<cO kd)(h:k (.int kd ((a*b:Nat):Int))):ae .num .mul (.int kd a) (.int kd b) k:=by
 refine ae.mul ?_
 have:((a:Int)*(b:Int))=((a*b:Nat):Int):=by push_cast;rfl
 rw[this,cQ hr];exact h
theorem ae.pP(ha:a<cO kd)(hb:b≠0)(h:k (.int kd ((a/b:Nat):Int))):ae .num .quo (.int kd a) (.int kd b) k:=by
 refine⟨_,?_,h⟩
 have h0:¬((b:Int)=0):=by omega
 simp only[dW,gj,if_true,h0,if_false]
 have:(a:Int).tdiv b=((a/b:Nat):Int):=by rw[Int.tdiv_eq_ediv_of_nonneg (by omega)];push_cast;rfl
 rw[this,cQ (Nat.lt_of_le_of_lt (Nat.div_le_self _ _) ha)]
theorem ae.iR{x y:Int}(h:k (.bool (decide (x=y)))):ae .num .eql (.int kd x) (.int kd y) k:=ae.eql (by rw[show(x==y)=decide (x=y)from by cases hb:decide (x=y)<;>simp_all];exact h)
theorem ae.ep{x y:Int}(h:k (.bool (decide (x≠y)))):ae .num .neq (.int kd x) (.int kd y) k:=ae.neq (by rw[show(x !=y)=decide (x≠y)from by cases hb:decide (x=y)<;>simp_all];exact h)
theorem ae.lg(h:k (.bool (decide (a=b)))):ae .num .eql (.int kd a) (.int kd b) k:=ae.iR (by simpa[Int.natCast_inj]using h)
theorem ae.D4(h:k (.bool (decide (a≠b)))):ae .num .neq (.int kd a) (.int kd b) k:=ae.ep (by simpa[Int.natCast_inj]using h)
theorem ae.jB(h:k (.bool (decide (a<b)))):ae .num .lss (.int kd a) (.int kd b) k:=ae.lss (by simpa[Int.ofNat_lt]using h)
theorem ae.uG(h:k (.bool (decide (a≤b)))):ae .num .leq (.int kd a) (.int kd b) k:=ae.leq (by simpa[Int.ofNat_le]using h)
theorem ae.og(h:k (.bool (decide (b<a)))):ae .num .gtr (.int kd a) (.int kd b) k:=ae.gtr (by simpa[Int.ofNat_lt]using h)
theorem ae.m6(h:k (.bool (decide (b≤a)))):ae .num .geq (.int kd a) (.int kd b) k:=ae.geq (by simpa[Int.ofNat_le]using h)
theorem bt.nat(ha:a<cO kd)(h:k (.int kd (a:Int))):bt kd (.int mW a) k:=bt.of (cQ ha) h
end
theorem Br.dec{p:Prop}[Decidable p]{t f:Prop}(h1:p→t)(h2:¬p→f):Br (.bool (decide p)) t f:=⟨_,rfl,fun h=>h1 (by simpa using h),fun h=>h2 (by simpa using h)⟩
theorem Br.Fp{p:Prop}[Decidable p]{t f:Prop}(hp:p)(h1:t):Br (.bool (decide p)) t f:=Br.dec (fun _=>h1) fun h=>absurd hp h
theorem Br.CG{p:Prop}[Decidable p]{t f:Prop}(hp:¬p)(h1:f):Br (.bool (decide p)) t f:=Br.dec (fun h=>absurd h hp) fun _=>h1
end Go.Sx
namespace dQ
open Go.Sx
def wN(n:Nat):Nat:=max 1 (2^n/64)
def sq(n:Nat):Nat:=if 6≤n then 18446744073709551615 else 2^2^n-1
structure GR(n:Nat)(ws:List Nat):Prop where
 Jl:n≤16
 len:ws.length=wN n
 full:∀w∈ws,w≤sq n
instance (n:Nat)(ws:List Nat):Decidable (GR n ws):=decidable_of_iff (n≤16∧ws.length=wN n∧∀w∈ws,w≤sq n) ⟨fun⟨a,b,c⟩=>⟨a,b,c⟩,fun⟨a,b,c⟩=>⟨a,b,c⟩⟩
def aQ(x v:Nat)(b:Bool):Nat:=if b then x|||2^v else lq x (2^v)
def CJ(v:Nat):Nat→Nat
 |0=>0
 |j+1=>CJ v j|||(((j>>>v) &&&1)<<<j)
def mask(v:Nat):Nat:=CJ v 64
theorem p9(m:Nat):m&&&1=if m.testBit 0 then 1 else 0:=by
 rw[Nat.and_one_is_mod,Nat.testBit_zero]
 rcases Nat.mod_two_eq_zero_or_one m with h|h<;>simp[h]
def Cb(ws:List Nat)(v:Nat)(b:Bool)(i:Nat):Nat:=
 if 6≤v then ws.getD (aQ i (v-6) b) 0
 else if b then(ws.getD i 0&&&mask v)|||(ws.getD i 0&&&mask v)>>>2^v
 else lq (ws.getD i 0) (mask v)|||(lq (ws.getD i 0) (mask v)<<<2^v)%18446744073709551616
def DK(n:Nat)(ws:List Nat)(v:Nat)(b:Bool):List Nat:=(List.range (wN n)).map fun i=>Cb ws v b i&&&sq n
theorem ak(x v:Nat)(b:Bool)(k:Nat):(aQ x v b).testBit k=if k=v then b else x.testBit k:=by
 unfold aQ
 cases b<;>simp only[if_true,Bool.false_eq_true,if_false]
 ·rw[eS,Nat.testBit_two_pow]
  by_cases e:k=v
  ·simp[e]
  ·simp[e,Ne.symm e]
 ·rw[Nat.testBit_or,Nat.testBit_two_pow]
  by_cases e:k=v
  ·simp[e]
  ·simp[e,Ne.symm e]
theorem xK{x v n:Nat}{b:Bool}(hx:x<2^n)(hv:v<n):aQ x v b<2^n:=by
 unfold aQ
 split
 ·exact Nat.or_lt_two_pow hx (Nat.pow_lt_pow_right (by decide) hv)
 ·exact Nat.lt_of_le_of_lt (sE _ _) hx
def dep(n:Nat)(ws:List Nat)(v:Nat):Bool:=decide (DK n ws v false≠DK n ws v true)
theorem fW(x v:Nat):aQ x v (x.testBit v)=x:=by
 apply Nat.eq_of_testBit_eq;intro k
 rw[ak]
 by_cases e:k=v
 ·rw[if_pos e,e]
 ·rw[if_neg e]
end dQ
namespace Go.Sx
open Go
inductive fD:Hp→Hp→Prop
 |refl (B:Hp):fD B B
 |cons {x:Nat×Obj} {B H:Hp} (h:fD B H):fD B (x::H)
 |app {N B H:Hp} (h:fD B H):fD B (N++H)
theorem fD.spec{B H:Hp}(h:fD B H):∃N,H=N++B:=by
 induction h with
 |refl=>exact⟨[],rfl⟩
 | @cons x B H h ih=>obtain⟨N,rfl⟩:=ih;exact⟨x::N,rfl⟩
 | @app M B H h ih=>obtain⟨N,rfl⟩:=ih;exact⟨M++N,by rw[List.append_assoc]⟩
theorem fD.gK{B H:Hp}(h:fD B H):aS H B:=by
 obtain⟨N,rfl⟩:=h.spec;exact aS.right
section
variable {P:Program} {g:Gh} {H:Hp}
def Px(P:Program)(f:FuncId)(args:Array Value)(B:Hp)(Q:Value→Hp→Prop):Prop:=Fc P f args B (fun v H=>fD B H∧Q v H)
theorem aa.pre{f:FuncId}{args:Array Value}{H':Hp}{K:Value→Hp→Prop}{KP:List PanicEntry→Hp→Prop}(he:aS H H')(h:aa P g f args H' K KP):aa P g f args H K KP:=aV.pre h he
theorem GK.mk{Q:Value→Hp→Prop}{v:Value}{B H:Hp}(he:fD B H)(h:Q v H):aY (fun v H=>fD B H∧Q v H) (.returned v) H:=⟨v,H,rfl,.refl _,he,h⟩
theorem bF.mk{Q:Value→Prop}{v:Value}{B H:Hp}(he:aS H B)(h:Q v):aY (fun v H=>H=B∧Q v) (.returned v) H:=⟨v,B,rfl,he,rfl,h⟩
def ai(kd:IntKind)(l:List Int):Array Value:=(l.map fun n=>Value.int kd n).toArray
theorem pG(kd:IntKind)(l:List Int)(i:Nat)(n:Int):(ai kd l).setIfInBounds i (.int kd n)=ai kd (l.set i n):=by
 simp[ai,List.map_set]
@[simp] theorem zi(kd:IntKind)(l:List Int):(ai kd l).size=l.length:=by simp[ai]
theorem s7(kd:IntKind)(n:Nat):madeCells (Value.cells (.int kd 0)) (n*1)=ai kd (List.replicate n 0):=by
 apply Array.ext
 ·simp[madeCells,ai]
 ·intro i h1 h2
  simp[madeCells,ai,Value.cells,Nat.mod_one]
def dw(kd:IntKind)(B:Hp)(v:Value)(l:List Int):Prop:=Sl 1 B v (l.map fun n=>[Value.int kd n])
theorem dw.mono{kd:IntKind}{B B':Hp}{v:Value}{l:List Int}(h:dw kd B v l)(hs:∀x∈B,x∈B'):dw kd B' v l:=Sl.mono h hs
theorem dw.cN{kd:IntKind}{B:Hp}{v:Value}{l:List Int}(h:dw kd B v l){K:Value→Prop}(hk:K (.int .i64 l.length)):bM v K:=Sl.cN h (by simpa using hk)
theorem dw.block{kd:IntKind}{B:Hp}{b cap:Nat}{l:List Int}{T:TypeId}{fz:Nat×Nat}(hm:(b,Obj.cells (ai kd l) T fz)∈B)(hc:l.length≤cap):dw kd B (.slice (some ⟨b,0,none⟩) l.length cap) l:=by
 refine⟨by simp,.inr ⟨b,0,cap,_,T,fz,by simp,by simpa using hc,hm,by simp[ai],fun i r hi j v hj=>?_⟩⟩
 rw[List.getElem?_map]at hi
 cases hl:l[i]? with
 |none=>rw[hl]at hi;simp at hi
 |some n=>
  rw[hl]at hi
  simp only[Option.map_some,Option.some.injEq]at hi
  subst hi
  cases j with
  |zero=>
   simp only[List.getElem?_cons_zero,Option.some.injEq]at hj
   subst hj
   simp[ai,hl]
  |succ j=>simp at hj
theorem dw.at{kd mW:IntKind}{B:Hp}{v:Value}{l:List Int}(h:dw kd B v l){i:Nat}{n:Int}(hi:l[i]? =some n){K:Value→Prop}(hk:∀p,At B p [.int kd n]→K p):ah 1 v (.int mW (i:Int)) K:=
 ah.sl h (by rw[List.getElem?_map,hi];rfl) hk
theorem dw.ld{kd mW:IntKind}{B:Hp}{v:Value}{l:List Int}(h:dw kd B v l){i:Nat}{n:Int}(hi:l[i]? =some n)(hs:∀x∈B,x∈H){K:Value→Prop}(hk:K (.int kd n)):ah 1 v (.int mW (i:Int)) (fun p=>Ld H p K):=
 h.at hi fun p hp=>Ld.at hp hs hk
theorem da.ints{T:TypeId}{kd kl:IntKind}{bytes n:Nat}{K:Value→Hp→Prop}(bL:n≤9223372036854775807)(hb:n*bytes≤281474976710656)
 (h:∀b,K (.slice (some ⟨b,0,none⟩) n n) ((b,.cells (ai kd (List.replicate n 0)) T (0,0))::H)):da T 1 bytes (.int kd 0) H (.int kl n) (.int kl n) K:=
 ⟨kl,kl,n,n,rfl,rfl,Nat.le_refl _,by omega,hb,fun b _=>by rw[s7];exact h b⟩
theorem St.ints{b i:Nat}{kd:IntKind}{l:List Int}{x:Int}{T:TypeId}{H':Hp}{K:Hp→Prop}(hu:cv b (.cells (ai kd l) T (0,0)) (.cells (ai kd (l.set i x)) T (0,0)) H H')(hi:i<l.length)(h:K H'):
  St 1 H (.pointer (some ⟨b,0+i*1,none⟩)) (.int kd x) K:=
 St.one (c:=ai kd l) (c':=ai kd (l.set i x)) hu rfl (by simpa using hi) (by rw[Nat.zero_add,Nat.mul_one];exact pG kd l i x) h
end
def cj:List Value→Nat→Nat
 | .int _ q::_,0=>q.toNat
 |_::r,i+1=>cj r i
 |_,_=>0
structure Tb where
 n:Int
 ws:List Nat
 deriving DecidableEq
def iw(ws:List Nat):List Int:=ws.map (Nat.cast:Nat→Int)
@[simp] theorem aE(ws:List Nat):(iw ws).length=ws.length:=by simp[iw]
theorem iM{ws:List Nat}{i w:Nat}(h:ws[i]? =some w):(iw ws)[i]? =some (w:Int):=by simp[iw,h]
def TF(t:Tb):Prop:=0≤t.n∧dQ.GR t.n.toNat t.ws
instance (t:Tb):Decidable (TF t):=by unfold TF;infer_instance
end Go.Sx
namespace Go.Sx
open Go Go.RowKit
section
variable {P:Program}
def whole(W:World):Hp:=(List.range W.heap.size).map fun i=>(i,W.heap.getD i default)
theorem sZ(W:World):Own ⟨W,[]⟩ (whole W) W:=by
 refine⟨rfl,rfl,rfl,?_,?_⟩
 ·have:(whole W).map Prod.fst=List.range W.heap.size:=by
   unfold whole
   rw[List.map_map]
   have:(Prod.fst∘fun i=>(i,W.heap.getD i default))=id:=by funext i;rfl
   rw[this,List.map_id]
  rw[List.append_nil,this];exact List.nodup_range
 ·intro x hx
  rw[List.append_nil]at hx
  obtain⟨i,hi,rfl⟩:=List.mem_map.1 hx
  have:=List.mem_range.1 hi
  simp[Array.getD_eq_getD_getElem?,this]
theorem Own.below{W W':World}(h:Own ⟨W,[]⟩ (whole W) W'):Below W.heap.size W W':=by
 have hb:∀k,k<W.heap.size→W'.heap[k]? =W.heap[k]? :=fun k hk=>by
  have:=h.has (k,W.heap.getD k default) (List.mem_map.2 ⟨k,List.mem_range.2 hk,rfl⟩)
  simp only at this
  rw[this];simp[Array.getD_eq_getD_getElem?,hk]
 refine⟨h.os,h.tape,h.out,?_,hb⟩
 rcases Nat.eq_zero_or_pos W.heap.size with h0|h0
 ·omega
 ·have:=hb (W.heap.size-1) (by omega)
  rw[show W.heap[W.heap.size-1]? =some (W.heap[W.heap.size-1]'(by omega))from Array.getElem?_eq_getElem (by omega)]at this
  have:=(Array.getElem?_eq_some_iff.1 this).1
  omega
theorem s9{f:FuncId}{args:Array Value}{W:World}(h:aV P ⟨W,[]⟩ f args (whole W) (fun e H'=>e=.returned (.bool true)∧aS H' (whole W))):
  Calls P f args W fun e W'=>e=.returned (.bool true)∧Below W.heap.size W W':=
 (h W (sZ W)).mono fun e W' ⟨H',ho,he,kf⟩=>⟨he,(kf _ _ ho).below⟩
theorem Af{f:FuncId}{args:Array Value}{W:World}(h:Px P f args (whole W) (fun v _=>v=.bool true)):
  Calls P f args W fun e W'=>e=.returned (.bool true)∧Below W.heap.size W W':=
 s9 ((h ⟨W,[]⟩).post fun e H' ⟨v,C,he,kf,hg,hv⟩=>⟨H',.refl _,by rw[he,hv],kf.trans hg.gK⟩)
section
variable {H:Type} {enc:TypeId×Value→H}
open Go.ChangeShapes Go.WideShapes Go.ChangeAt Go.RowKit
theorem gn(hl:laidOutB P=true){W W':World}{sp:Nat→Bool}(hb:Below W.heap.size W W'):∀(ts:List TypeId) (vs:List Value) (ds:List (DataW H)) (ps:List MemPlace),
  (∀t∈ts,P.readableRec t=true∧t<P.types.size)→DataW.TrodAll enc P W 0 (fun _=>true) true ts vs ds ps→(∀x∈ps,x.block<W.heap.size)→(∀x∈ps,sp x.block=true)→DataW.TrodAll enc P W' 0 sp true ts vs ds ps
 | [],vs,ds,ps,_,h,_,_=>by
  obtain⟨rfl,rfl,rfl⟩:=trodAll_nil h;exact trodAll_mk0
 |t::ts,vs,ds,ps,hr,h,hlt,hsp=>by
  obtain⟨v,vs',d,ds',p,q,rfl,rfl,rfl,h0,h1⟩:=trodAll_cons h
  have ht:=hr t (by simp)
  exact trodAll_cons_mk (WideElems.Trod_stays hl ht.1 ht.2 h0 (fun x hx=>hb.same (hlt x (by simp[hx]))) (fun x hx=>hsp x (by simp[hx])))
   (gn hl hb ts vs' ds' q (fun t' h'=>hr t' (by simp[h'])) h1 (fun x hx=>hlt x (by simp[hx])) (fun x hx=>hsp x (by simp[hx])))
theorem vA{f:Func}{s:ChangeSpec}{W W':World}{args:Array Value}{ds gs:List (DataW H)}{before:List MemPlace}{tb:TypeId}(hvars:s.vars=[])
 (hW:DataW.Whole enc P f.params.toList s.vars false W args.toList ds gs before)(hs:s.fn H (ds++gs)={results:=[.lit (.bool true)],args:=ds})(hb:Below W.heap.size W W')
 (hl:laidOutB P=true)(hr:∀t∈f.params.toList,P.readableRec t=true∧t<P.types.size)(Hx:f.resultTypes=#[tb])(B8:P.underlying tb=some .bool):
  s.post enc P f false true false false W args (.bool true) W':=by
 have Dy:=hW
 have hlt:=hW.lt
 obtain⟨p,q,hA,hV,rfl,hfz,j6⟩:=hW
 rw[hvars]at hV
 obtain⟨rfl,rfl⟩:=trodVars_none hV
 refine⟨ds,_,_,[],p,[],Dy,?_,?_,?_,World.keptBut_mono (fun p hp=>⟨hp,?_⟩) (hb.frame (· ∈p++[])),fun h=>by cases h⟩
 ·rw[hs,Hx];exact trodAll_cons_mk (shut_bool B8 _) trodAll_mk0
 ·rw[hs]
  exact gn hl hb _ _ _ _ hr hA (fun x hx=>hlt x (by simp[hx])) (fun x hx=>by simpa using hlt x (by simp[hx]))
 ·rw[hvars,hs];rfl
 ·right;simpa using hp
end
end
end Go.Sx
namespace Go.Sx
open Go
section
variable {P:Program} {g:Gh} {H:Hp}
theorem aD.GD{T:TypeId}{v x:Value}{rs:List (List Value)}{C:Hp}(hs:aD T 1 v rs C){i:Nat}(hi:i<rs.length)(hr:rs[i]? =some [x])(hC:∀y∈C,y∈H){K:Value→Prop}(hk:K x):
  ah 1 v (.int .i64 (i:Int)) fun p=>Ld H p K:=by
 obtain⟨b',aK,rfl,rfl,aF⟩:=hs.pos (by omega)
 refine ah.nat hi ?_
 exact Ld.Bp (l:=rs++aK) (hC _ (List.Mem.head _)) aF (by rw[List.getElem?_append_left hi];exact hr) hk
theorem aD.DZ{T:TypeId}{v x y:Value}{rs:List (List Value)}{C A B:Hp}(hs:aD T 1 v rs C){i:Nat}(hi:i<rs.length)(hr:rs[i]? =some [y])(h1:x.oneCell'=true){K:Hp→Prop}
 (hk:∀C',aD T 1 v (rs.set i [x]) C'→K (A++(C'++B))):ah 1 v (.int .i64 (i:Int)) fun p=>St 1 (A++(C++B)) p x K:=by
 obtain⟨b',aK,rfl,rfl,aF⟩:=hs.pos (by omega)
 refine ah.nat hi ?_
 refine St.cell (l:=rs++aK) (i:=i) (k:=1) (j:=0) (r:=[y]) (((cv.head _).append B).cm A) aF (by rw[List.getElem?_append_left hi];exact hr) (by omega) h1 ?_
 have e:(rs++aK).set i ([y].set 0 x)=rs.set i [x]++aK:=by rw[List.set_append_left _ _ hi];rfl
 rw[e]
 refine hk [(b',_)] (aD.mk' (aK:=aK) (fun r hr'=>?_) (by simp) (by simp))
 rcases List.mem_append.1 hr' with hr'|hr'
 ·rcases List.mem_or_eq_of_mem_set hr' with hr'|rfl
  ·exact aF r (by simp[hr'])
  ·rfl
 ·exact aF r (by simp[hr'])
end
end Go.Sx
namespace Go.Sx
open Go
section
variable {κ β:Type} [DecidableEq κ]
structure aH(ke:κ→Value)(vr:Value→β→Prop)(es:Array MapEntry)(ck:Nat)(m:List (κ×β)):Prop where
 len:es.size=m.length
 key:∀(i:Nat) (e:MapEntry) (x:κ×β),es[i]? =some e→m[i]? =some x→e.key=ke x.1∧vr e.val x.2
 nd:(m.map Prod.fst).Nodup
 born:(es.toList.map MapEntry.born).Nodup
 lt:∀e∈es.toList,e.born<ck
variable {ke:κ→Value} {vr:Value→β→Prop} {es:Array MapEntry} {ck:Nat} {m:List (κ×β)}
theorem aH.empty:aH ke vr #[] 0 []:=⟨rfl,by simp,by simp,by simp,by simp⟩
def dV(m:List (κ×β))(k:κ)(x:β):List (κ×β):=if k∈m.map Prod.fst then m.map (fun y=>if y.1=k then(k,x)else y)else m++[(k,x)]
def aU(m:List (κ×β))(k:κ):Option β:=(m.find? (fun y=>y.1=k)).map Prod.snd
theorem eB{m:List (κ×β)}{k:κ}{x:β}(nd:(m.map Prod.fst).Nodup):aU m k=some x↔(k,x)∈m:=by
 induction m with
 |nil=>simp[aU]
 |cons y r ih=>
  rw[List.map_cons,List.nodup_cons]at nd
  obtain⟨a,b⟩:=y
  simp only[aU,List.find?_cons]at ih⊢
  by_cases e:a=k
  ·subst e
   simp only[decide_true,Option.map_some,Option.some.injEq,List.mem_cons,Prod.mk.injEq,true_and]
   constructor
   ·intro h;exact .inl h.symm
   ·rintro(h|h)
    ·exact h.symm
    ·exact absurd (List.mem_map.2 ⟨_,h,rfl⟩) nd.1
  ·simp only[e,decide_false,List.mem_cons,Prod.mk.injEq,Ne.symm e,false_and,false_or]
   exact ih nd.2
theorem ga{m:List (κ×β)}{k:κ}:aU m k=none↔k∉m.map Prod.fst:=by
 simp only[aU,Option.map_eq_none_iff,List.find?_eq_none,decide_eq_true_eq,List.mem_map,not_exists,not_and]
theorem aH.findNow{kd:TypeDesc}(hk:∀a b,Instr.sameNow kd (ke a) (ke b)=some (decide (a=b)))(h:aH ke vr es ck m)(k:κ):
  (∃(i:Nat) (x:β) (e:MapEntry),es[i]? =some e∧m[i]? =some (k,x)∧vr e.val x∧Instr.findNow kd (ke k) es.toList 0=some (some (i,e.val)))∨(k∉m.map Prod.fst∧Instr.findNow kd (ke k) es.toList 0=some none):=by
 have key:∀(l:List MapEntry) (q:List (κ×β)) (j:Nat),l.length=q.length→(∀(i:Nat) (e:MapEntry) (x:κ×β),l[i]? =some e→q[i]? =some x→e.key=ke x.1∧vr e.val x.2)→
   (∃(i:Nat) (x:β) (e:MapEntry),l[i]? =some e∧q[i]? =some (k,x)∧vr e.val x∧Instr.findNow kd (ke k) l j=some (some (j+i,e.val)))∨(k∉q.map Prod.fst∧Instr.findNow kd (ke k) l j=some none):=by
  intro l
  induction l with
  |nil=>intro q j hl _;cases q with|nil=>exact .inr ⟨by simp,rfl⟩|cons a b=>simp at hl
  |cons e r ih=>
   intro q j hl hkey
   cases q with
   |nil=>simp at hl
   |cons y q=>
    obtain⟨h1,h2⟩:=hkey 0 e y rfl rfl
    simp only[Instr.findNow,h1,hk]
    by_cases e0:k=y.1
    ·subst e0
     exact .inl ⟨0,y.2,e,rfl,rfl,h2,by simp⟩
    ·rw[decide_eq_false e0]
     rcases ih q (j+1) (by simpa using hl) (fun i e x h1 h2=>hkey (i+1) e x (by simpa using h1) (by simpa using h2))with⟨i,x,e',g1,g2,g3,g4⟩|⟨g1,g2⟩
     ·exact .inl ⟨i+1,x,e',by simpa using g1,by simpa using g2,g3,by simp only[g4];rw[show j+1+i=j+(i+1)by omega]⟩
     ·exact .inr ⟨by rw[List.map_cons,List.mem_cons];rintro(h|h);exact e0 h;exact g1 h,by simpa using g2⟩
 have:=key es.toList m 0 (by simpa using h.len) (fun i e x h1 h2=>h.key i e x (by simpa using h1) h2)
 rcases this with⟨i,x,e,g1,g2,g3,g4⟩|h2
 ·exact .inl ⟨i,x,e,by simpa using g1,g2,g3,by simpa using g4⟩
 ·exact .inr h2
theorem aH.sw{P:Program}{kt:TypeId}(hk:∀a b,sK P kt (ke a) (ke b) (decide (a=b)))(h:aH ke vr es ck m)(k:κ):
  (∃(i:Nat) (x:β) (e:MapEntry),es[i]? =some e∧m[i]? =some (k,x)∧vr e.val x∧fA P kt (ke k) es.toList 0 (some (i,e.val)))∨(k∉m.map Prod.fst∧fA P kt (ke k) es.toList 0 none):=by
 have key:∀(l:List MapEntry) (q:List (κ×β)) (j:Nat),l.length=q.length→(∀(i:Nat) (e:MapEntry) (x:κ×β),l[i]? =some e→q[i]? =some x→e.key=ke x.1∧vr e.val x.2)→
   (∃(i:Nat) (x:β) (e:MapEntry),l[i]? =some e∧q[i]? =some (k,x)∧vr e.val x∧fA P kt (ke k) l j (some (j+i,e.val)))∨(k∉q.map Prod.fst∧fA P kt (ke k) l j none):=by
  intro l
  induction l with
  |nil=>intro q j hl _;cases q with|nil=>exact .inr ⟨by simp,rfl⟩|cons a b=>simp at hl
  |cons e r ih=>
   intro q j hl hkey
   cases q with
   |nil=>simp at hl
   |cons y q=>
    obtain⟨h1,h2⟩:=hkey 0 e y rfl rfl
    have hb:=hk k y.1
    rw[←h1]at hb
    by_cases e0:k=y.1
    ·refine .inl ⟨0,y.2,e,rfl,by rw[e0];rfl,h2,?_⟩
     exact⟨_,hb,fun _=>by simp,fun h=>by simp[e0]at h⟩
    ·rcases ih q (j+1) (by simpa using hl) (fun i e x h1 h2=>hkey (i+1) e x (by simpa using h1) (by simpa using h2))with⟨i,x,e',g1,g2,g3,g4⟩|⟨g1,g2⟩
     ·refine .inl ⟨i+1,x,e',by simpa using g1,by simpa using g2,g3,_,hb,fun h=>by simp[e0]at h,fun _=>?_⟩
      rw[show j+(i+1)=j+1+i by omega];exact g4
     ·exact .inr ⟨by rw[List.map_cons,List.mem_cons];rintro(h|h);exact e0 h;exact g1 h,_,hb,fun h=>by simp[e0]at h,fun _=>g2⟩
 have:=key es.toList m 0 (by simpa using h.len) (fun i e x h1 h2=>h.key i e x (by simpa using h1) h2)
 rcases this with⟨i,x,e,g1,g2,g3,g4⟩|h2
 ·exact .inl ⟨i,x,e,by simpa using g1,g2,g3,by simpa using g4⟩
 ·exact .inr h2
theorem aH.put(h:aH ke vr es ck m){i:Nat}{k:κ}{y x:β}{val:Value}(hi:m[i]? =some (k,y))(hv:vr val x):aH ke vr (es.modify i fun e=>{e with key:=ke k,val}) ck (dV m k x):=by
 have hmem:k∈m.map Prod.fst:=List.mem_map.2 ⟨_,List.mem_of_getElem? hi,rfl⟩
 have hlt:=(List.getElem?_eq_some_iff.1 hi).1
 have BC:∀j z,m[j]? =some z→z.1=k→j=i:=fun j z hj hz=>by
  have hj':=(List.getElem?_eq_some_iff.1 hj).1
  have e1:(m.map Prod.fst)[j]? =some k:=by rw[List.getElem?_map,hj];simp[hz]
  have e2:(m.map Prod.fst)[i]? =some k:=by rw[List.getElem?_map,hi];rfl
  exact(List.getElem?_inj (by simpa using hj') h.nd).1 (e1.trans e2.symm)
 have hb:((es.modify i fun e=>{e with key:=ke k,val}).toList.map MapEntry.born)=es.toList.map MapEntry.born:=by
  apply List.ext_getElem?;intro j
  simp only[List.getElem?_map,Array.getElem?_toList,Array.getElem?_modify]
  split
  ·cases es[j]? <;>rfl
  ·rfl
 refine⟨by simp[dV,hmem,h.len],fun j e z he hz=>?_,?_,by rw[hb];exact h.born,fun e he=>?_⟩
 ·simp only[dV,hmem,if_true,List.getElem?_map]at hz
  rw[Array.getElem?_modify]at he
  cases hm:m[j]? with
  |none=>rw[hm]at hz;simp at hz
  |some z0=>
   rw[hm]at hz
   simp only[Option.map_some,Option.some.injEq]at hz
   cases EI:es[j]? with
   |none=>rw[EI]at he;split at he<;>simp at he
   |some e0=>
    rw[EI]at he
    by_cases ek:z0.1=k
    ·have:=BC j z0 hm ek
     subst this
     rw[if_pos ek]at hz;subst hz
     simp only[if_true,Option.map_some,Option.some.injEq]at he
     subst he;exact⟨rfl,hv⟩
    ·rw[if_neg ek]at hz;subst hz
     rw[if_neg (fun e=>by subst e;rw[hi]at hm;cases hm;exact ek rfl)]at he
     simp only[Option.some.injEq]at he
     subst he;exact h.key j _ _ EI hm
 ·have:(dV m k x).map Prod.fst=m.map Prod.fst:=by
   simp only[dV,hmem,if_true,List.map_map]
   apply List.map_congr_left
   intro z _
   simp only[Function.comp]
   split
   ·rename_i hz;exact hz.symm
   ·rfl
  rw[this];exact h.nd
 ·have:e.born∈(es.modify i fun e=>{e with key:=ke k,val}).toList.map MapEntry.born:=List.mem_map_of_mem he
  rw[hb]at this
  obtain⟨e0,h1,h2⟩:=List.mem_map.1 this
  rw[←h2];exact h.lt e0 h1
theorem aH.more(h:aH ke vr es ck m){k:κ}{x:β}{val:Value}(hk:k∉m.map Prod.fst)(hv:vr val x):aH ke vr (es.push {key:=ke k,val,born:=ck}) (ck+1) (dV m k x):=by
 have hs:dV m k x=m++[(k,x)]:=by unfold dV;rw[if_neg hk]
 rw[hs]
 refine⟨by simp[h.len],fun j e z he hz=>?_,?_,?_,fun e he=>?_⟩
 ·by_cases hj:j<m.length
  ·rw[List.getElem?_append_left hj]at hz
   rw[Array.getElem?_push,if_neg (by rw[h.len];omega)]at he
   exact h.key j _ _ he hz
  ·have Dq:=(List.getElem?_eq_some_iff.1 hz).1
   simp only[List.length_append,List.length_cons,List.length_nil]at Dq
   have:j=m.length:=by omega
   subst this
   rw[List.getElem?_append_right (Nat.le_refl _)]at hz
   simp at hz;subst hz
   rw[Array.getElem?_push,if_pos h.len.symm]at he
   simp at he;subst he
   exact⟨rfl,hv⟩
 ·rw[List.map_append,List.nodup_append]
  refine⟨h.nd,by simp,fun a ha b hb=>?_⟩
  simp at hb;subst hb;rintro rfl;exact hk ha
 ·rw[Array.toList_push,List.map_append,List.nodup_append]
  refine⟨h.born,by simp,fun a ha b hb=>?_⟩
  simp at hb;subst hb
  obtain⟨e,he,rfl⟩:=List.mem_map.1 ha
  have:=h.lt e he;omega
 ·rw[Array.toList_push,List.mem_append]at he
  rcases he with he|he
  ·have:=h.lt e he;omega
  ·simp at he;subst he;simp
variable {H:Hp} {b:Nat}
theorem aH.hit{kd:TypeDesc}{zero:Value}{ok:Bool}{k:κ}{x:β}{K:Value→Prop}(hk:∀a b,Instr.sameNow kd (ke a) (ke b)=some (decide (a=b)))(h:aH ke vr es ck m)(hm:(b,Obj.map es ck)∈H)(hx:aU m k=some x)
 (h1:∀v,vr v x→K (cond ok (.tuple #[v,.bool true]) v)):fU kd zero ok H (.map (some b)) (ke k) K:=by
 rcases h.findNow hk k with⟨i,y,e,g1,g2,g3,g4⟩|⟨g1,g2⟩
 ·have:aU m k=some y:=(eB h.nd).2 (List.mem_of_getElem? g2)
  rw[hx]at this;cases this
  exact⟨es,_,.inr ⟨b,ck,rfl,hm⟩,g4,h1 _ g3⟩
 ·rw[ga.2 g1]at hx;cases hx
theorem aH.vw{kd:TypeDesc}{zero:Value}{ok:Bool}{k:κ}{K:Value→Prop}(hk:∀a b,Instr.sameNow kd (ke a) (ke b)=some (decide (a=b)))(h:aH ke vr es ck m)(hm:(b,Obj.map es ck)∈H)(hx:aU m k=none)
 (h1:K (cond ok (.tuple #[zero,.bool false]) zero)):fU kd zero ok H (.map (some b)) (ke k) K:=by
 rcases h.findNow hk k with⟨i,y,e,g1,g2,g3,g4⟩|⟨g1,g2⟩
 ·exact absurd (List.mem_map.2 ⟨_,List.mem_of_getElem? g2,rfl⟩) (ga.1 hx)
 ·exact⟨es,_,.inr ⟨b,ck,rfl,hm⟩,g2,h1⟩
theorem aH.aP{kd:TypeDesc}{k:κ}{x:β}{val:Value}{K:Hp→Prop}(hk:∀a b,Instr.sameNow kd (ke a) (ke b)=some (decide (a=b)))(hb:∀a,Instr.sameBits 10000 (ke a) (ke a)=true)(h:aH ke vr es ck m)(hv:vr val x)
 (h1:∀es' cY,aH ke vr es' cY (dV m k x)→∃H',cv b (.map es ck) (.map es' cY) H H'∧K H'):aN kd H (.map (some b)) (ke k) val K:=by
 rcases h.findNow hk k with⟨i,y,e,g1,g2,g3,g4⟩|⟨g1,g2⟩
 ·refine⟨b,es,ck,_,rfl,g4,fun e' he'=>?_,by rw[h.len];exact(List.getElem?_eq_some_iff.1 g2).1,h1 _ _ (h.put g2 hv)⟩
  rw[(h.key i e' _ he' g2).1];exact hb k
 ·exact⟨b,es,ck,_,rfl,g2,h1 _ _ (h.more g1 hv)⟩
theorem aH.yz{P:Program}{kt:TypeId}{zero:Value}{ok:Bool}{k:κ}{x:β}{K:Value→Prop}(hk:∀a b,sK P kt (ke a) (ke b) (decide (a=b)))(hc:∀a,gP P kt (ke a))(h:aH ke vr es ck m)(hm:(b,Obj.map es ck)∈H)(hx:aU m k=some x)
 (h1:∀v,vr v x→K (cond ok (.tuple #[v,.bool true]) v)):fy P kt zero ok H (.map (some b)) (ke k) K:=by
 rcases h.sw hk k with⟨i,y,e,g1,g2,g3,g4⟩|⟨g1,g2⟩
 ·have:aU m k=some y:=(eB h.nd).2 (List.mem_of_getElem? g2)
  rw[hx]at this;cases this
  exact⟨es,_,.inr ⟨b,ck,rfl,hm⟩,hc k,g4,h1 _ g3⟩
 ·rw[ga.2 g1]at hx;cases hx
theorem aH.rY{P:Program}{kt:TypeId}{zero:Value}{ok:Bool}{k:κ}{K:Value→Prop}(hk:∀a b,sK P kt (ke a) (ke b) (decide (a=b)))(hc:∀a,gP P kt (ke a))(h:aH ke vr es ck m)(hm:(b,Obj.map es ck)∈H)(hx:aU m k=none)
 (h1:K (cond ok (.tuple #[zero,.bool false]) zero)):fy P kt zero ok H (.map (some b)) (ke k) K:=by
 rcases h.sw hk k with⟨i,y,e,g1,g2,g3,g4⟩|⟨g1,g2⟩
 ·exact absurd (List.mem_map.2 ⟨_,List.mem_of_getElem? g2,rfl⟩) (ga.1 hx)
 ·exact⟨es,_,.inr ⟨b,ck,rfl,hm⟩,hc k,g2,h1⟩
theorem aH.xB{P:Program}{kt:TypeId}{k:κ}{x:β}{val:Value}{K:Hp→Prop}(hk:∀a b,sK P kt (ke a) (ke b) (decide (a=b)))(hc:∀a,gP P kt (ke a))(hb:∀a,Instr.sameBits 10000 (ke a) (ke a)=true)(h:aH ke vr es ck m)(hv:vr val x)
 (h1:∀es' cY,aH ke vr es' cY (dV m k x)→∃H',cv b (.map es ck) (.map es' cY) H H'∧K H'):fk P kt H (.map (some b)) (ke k) val K:=by
 rcases h.sw hk k with⟨i,y,e,g1,g2,g3,g4⟩|⟨g1,g2⟩
 ·refine⟨b,es,ck,_,rfl,hc k,g4,fun e' he'=>?_,by rw[h.len];exact(List.getElem?_eq_some_iff.1 g2).1,h1 _ _ (h.put g2 hv)⟩
  rw[(h.key i e' _ he' g2).1];exact hb k
 ·exact⟨b,es,ck,_,rfl,hc k,g2,h1 _ _ (h.more g1 hv)⟩
def bQ(es:Array MapEntry)(m:List (κ×β))(seen:Array Nat):List (κ×β):=((es.toList.zip m).filter fun p=> !seen.contains p.1.born).map Prod.snd
omit [DecidableEq κ] in
theorem o6(h:aH ke vr es ck m):bQ es m #[]=m:=by
 unfold bQ
 rw[List.filter_eq_self.2 (by simp),←List.unzip_snd,List.unzip_zip]
 simpa using h.len
omit [DecidableEq κ] in
theorem nA(h:aH ke vr es ck m){seen:Array Nat}{i:Nat}{e:MapEntry}{x:κ×β}(he:es[i]? =some e)(hx:m[i]? =some x)(hs:e.born∉seen):(bQ es m seen).Perm (x::bQ es m (seen.push e.born)):=by
 unfold bQ
 have hz:(es.toList.zip m)[i]? =some (e,x):=by rw[List.getElem?_zip_eq_some];exact⟨by simpa using he,hx⟩
 obtain⟨A,C,Gx,hlen⟩:∃A C,es.toList.zip m=A++(e,x)::C∧A.length=i:=by
  obtain⟨hlt,hg⟩:=List.getElem?_eq_some_iff.1 hz
  exact⟨(es.toList.zip m).take i,(es.toList.zip m).drop (i+1),by rw[←hg,List.getElem_cons_drop,List.take_append_drop],by simp only[List.length_take];omega⟩
 have ED:(es.toList.zip m).map (fun p=>p.1.born)=es.toList.map MapEntry.born:=by
  have:(es.toList.zip m).map Prod.fst=es.toList:=by rw[←List.unzip_fst,List.unzip_zip];simpa using h.len
  rw[show(fun p:MapEntry×(κ×β)=>p.1.born)=MapEntry.born∘Prod.fst from rfl,←List.map_map,this]
 have j6:=h.born
 rw[←ED,Gx,List.map_append,List.map_cons]at j6
 have BS:=List.perm_middle.nodup_iff.1 j6
 rw[List.nodup_cons,←List.map_append]at BS
 have hne:∀p∈A++C,p.1.born≠e.born:=fun p hp e0=>BS.1 (List.mem_map.2 ⟨p,hp,e0⟩)
 have zA:∀L:List (MapEntry×(κ×β)),(∀p∈L,p.1.born≠e.born)→(L.filter fun p=> !(seen.push e.born).contains p.1.born)=L.filter fun p=> !seen.contains p.1.born:=fun L hL=>by
  apply List.filter_congr
  intro p hp
  have:=hL p hp
  simp[Array.mem_push,this]
 rw[Gx,List.filter_append,List.filter_append,List.filter_cons,List.filter_cons]
 rw[if_pos (by simpa using hs),if_neg (by simp),zA A fun p hp=>hne p (List.mem_append_left _ hp),zA C fun p hp=>hne p (List.mem_append_right _ hp)]
 rw[List.map_append,List.map_append,List.map_cons]
 exact List.perm_middle
omit [DecidableEq κ] in
theorem aH.next{bi bm:Nat}{seen:Array Nat}{K:Value→Hp→Prop}(h:aH ke vr es ck m)(hm:(bm,Obj.map es ck)∈H)(hi:(bi,Obj.mapIter (some bm) ck seen ck)∈H)
 (h1:∀e x seen',e∈es.toList→e.key=ke x.1→vr e.val x.2→(bQ es m seen).Perm (x::bQ es m seen')→seen'.back?=some e.born→es.find? (·.born==e.born)=some e→
   ∃H',cv bi (.mapIter (some bm) ck seen ck) (.mapIter (some bm) ck seen' ck) H H'∧K (.tuple #[.bool true,e.key,e.val]) H')
 (h2:bQ es m seen=[]→K (.tuple #[.bool false]) H):C4 H (.pointer (some ⟨bi,0,none⟩)) K:=by
 refine⟨bi,some bm,ck,seen,ck,rfl,hi,es,ck,hm,fun e he=>⟨h.lt e he,h.lt e he⟩,fun e he hs=>?_,fun aF=>h2 ?_⟩
 ·obtain⟨i,hi',rfl⟩:=List.mem_iff_getElem.1 he
  have xm:i<m.length:=by rw[←h.len];simpa using hi'
  have g1:es[i]? =some es.toList[i]:=by rw[←Array.getElem?_toList];exact List.getElem?_eq_getElem hi'
  have g2:m[i]? =some m[i]:=List.getElem?_eq_getElem xm
  obtain⟨k1,k2⟩:=h.key i _ _ g1 g2
  refine h1 _ m[i] _ he k1 k2 (nA h g1 g2 hs) (by simp) ?_
  rw[←Array.find?_toList]
  have j6:=h.born
  rw[List.find?_eq_some_iff_append]
  refine⟨by simp,es.toList.take i,es.toList.drop (i+1),by rw[List.getElem_cons_drop,List.take_append_drop],fun a ha=>?_⟩
  simp only[Bool.not_eq_true',beq_eq_false_iff_ne,ne_eq]
  intro e0
  obtain⟨j,hj,rfl⟩:=List.mem_iff_getElem.1 ha
  simp only[List.length_take]at hj
  rw[List.getElem_take]at e0
  have:=(List.getElem_inj (by simpa using h.born) (xs:=es.toList.map MapEntry.born) (i:=j) (j:=i) (h₀:=by rw[List.length_map];omega) (h₁:=by rw[List.length_map];exact hi')).1 (by simpa using e0)
  omega
 ·unfold bQ
  rw[List.filter_eq_nil_iff.2,List.map_nil]
  intro p hp
  have:=aF p.1 (List.of_mem_zip hp).1
  simpa using this
end
end Go.Sx
namespace dQ
abbrev Fs:=List (List Nat)
def add(l:Fs)(t:List Nat):Fs:=if t∈l then l else l++[t]
def uR(L:Fs):Fs:=L.foldl add []
def given(n:Nat)(l:Fs)(v:Nat):Fs:=l.foldl (fun acc t=>add (add acc (DK n t v false)) (DK n t v true)) []
def nodes(n:Nat)(l:Fs)(v:Nat):Fs:=l.filter fun t=>dep n t v
def st(n:Nat)(L:Fs)(A:Nat):Nat→Fs
 |0=>uR L
 |k+1=>if A.testBit k then given n (st n L A k) k else st n L A k
def lvl(n:Nat)(L:Fs)(A v:Nat):Nat:=(nodes n (st n L A n) v).length
theorem yT(A u:Nat):(A>>>u&&&1=1)↔A.testBit u=true:=by
 rw[p9,Nat.testBit_shiftRight,Nat.add_zero];cases A.testBit u<;>simp
theorem sB(A u:Nat):((A>>>u)%2=1)↔A.testBit u=true:=by
 rw[←yT,Nat.and_one_is_mod]
end dQ
namespace Go.Sx
open Go
section
variable {P:Program} {H:Hp}
theorem an.int{t e:Nat}{kd:IntKind}{x:Int}{K:Value→Hp→Prop}(h1:P.underlying t=some (.slice e))(h2:bR P e=some 1)(h3:dc P e=some (.int kd 0))
 (h:∀b,K (.slice (some ⟨b,0,none⟩) 1 1) ((b,.cells (ai kd [x]) e (0,0))::H)):an P t 1 [(0,.int kd x)] H K:=by
 refine⟨ai kd [x],e,1,_,h1,h2,h3,by decide,?_,fun b _=>h b⟩
 have e1:Array.range 1=#[0]:=rfl
 simp[Instr.fill,Value.cells,ai,e1]
theorem an.none{t e k:Nat}{z:Value}{K:Value→Hp→Prop}(h1:P.underlying t=some (.slice e))(h2:bR P e=some k)(h3:dc P e=some z)
 (h:∀b,K (.slice (some ⟨b,0,none⟩) 0 0) ((b,.cells #[] e (0,0))::H)):an P t 0 [] H K:=by
 refine⟨_,e,k,z,h1,h2,h3,by simp,rfl,fun b _=>?_⟩
 have:((Array.range (0*k)).map fun i=>z.cells[i%z.cells.size]!)=#[]:=by simp
 rw[this];exact h b
end
end Go.Sx
namespace Go.Sx
open Go
section
variable {P:Program} {g:Gh} {H:Hp}
theorem aD.apps{elem k bytes:Nat}{zero:Value}{v:Value}{rs:List (List Value)}{C A B:Hp}(h:aD elem k v rs C){xa:Option Addr}{xc:Nat}{r2:List (List Value)}
 (hx:Cells (A++(C++B)) xa (r2.length*k) (rows r2))(hr:∀r∈r2,r.length=k)(h1:∀r∈r2,∀u∈r,u.oneCell'=true)(hz:∃z:List Value,zero.cells=z.toArray∧z.length=k)
 (hb:(rs.length+r2.length)*bytes≤140737488355328)(bL:rs.length+r2.length≤9223372036854775807){K:Value→Hp→Prop}
 (hk:∀v' C',aD elem k v' (rs++r2) C'→K v' (A++(C'++B))):App P elem k bytes zero (A++(C++B)) v (.slice xa r2.length xc) K:=by
 obtain⟨z,BB,yn⟩:=hz
 have hnone:∀u∈(rows r2).toList,u.oneCell'=true:=by
  intro u hu
  simp only[rows,List.mem_flatten]at hu
  obtain⟨r,h2,h3⟩:=hu
  exact h1 r h2 u h3
 rcases h with⟨rfl,rfl,rfl⟩|⟨b,aK,rfl,rfl,aF⟩
 ·refine⟨none,0,0,xa,r2.length,xc,#[],rows r2,rfl,rfl,rfl,hx,aL hr,by simp,hnone,fun h=>?_,fun _=>⟨by simpa using hb,by simpa using bL,fun cG hn b EM=>?_⟩⟩
  ·have:r2=[]:=List.eq_nil_of_length_eq_zero (by omega)
   subst this
   exact hk _ [] (.inl ⟨rfl,rfl,rfl⟩)
  ·rw[show(#[]:Array Value)++rows r2++Builtin.zeroCells zero.cells (cG-(0+r2.length))=rows ([]++r2++List.replicate (cG-r2.length) z)by rw[BB,gT z yn];simp only[Nat.zero_add,Array.empty_append,List.nil_append];rw[bP]]
   refine⟨_,aS.uU [(b,_)] A B,hk _ [(b,_)] (.inr ⟨b,List.replicate (cG-r2.length) z,?_,rfl,?_⟩)⟩
   ·simp;omega
   ·intro x hx
    rcases List.mem_append.1 hx with hx|hx
    ·exact hr x hx
    ·rw[List.eq_of_mem_replicate hx,yn]
 ·have hsz:=aL aF
  have gv:∀x∈rs,x.length=k:=fun x hx=>aF x (by simp[hx])
  have hold:rows rs=(rows (rs++aK)).extract 0 (0+rs.length*k):=by
   rw[←bP]
   apply Array.ext'
   have:=aL gv
   have h2:(rows rs).toList.length=rs.length*k:=by rw[Array.length_toList];exact this
   rw[Array.toList_extract,Array.toList_append,List.extract_eq_take_drop,List.drop_zero,Nat.zero_add,Nat.sub_zero,←h2,List.take_left]
  refine⟨some ⟨b,0,none⟩,rs.length,rs.length+aK.length,xa,r2.length,xc,rows rs,rows r2,rfl,rfl,.inr ⟨rfl,_,elem,(0,0),by simp,?_,hold⟩,hx,aL hr,aL gv,hnone,fun hfit=>?_,fun hgrow=>⟨hb,by omega,fun cG hn b' EM=>?_⟩⟩
  ·rw[hsz];simp only[List.length_append,Nat.zero_add];exact Nat.mul_le_mul_right _ (by omega)
  ·obtain⟨j1,j2,rfl,hj⟩:∃j1 j2,aK=j1++j2∧j1.length=r2.length:=⟨aK.take r2.length,aK.drop r2.length,(List.take_append_drop _ _).symm,by rw[List.length_take];omega⟩
   have B9:∀x∈j1,x.length=k:=fun x hx=>aF x (by simp[hx])
   refine⟨_,elem,_,rfl,?_,((cv.head _).append B).cm A,hk _ [(b,_)] (.inr ⟨b,j2,?_,?_,?_⟩)⟩
   ·rw[hsz,List.length_append,List.length_append,hj,Nat.add_mul,Nat.add_mul]
    show 0+rs.length*k+r2.length*k≤_
    omega
   ·simp;omega
   ·have e:(⟨b,0,none⟩:Addr).off+rs.length*k=rs.length*k:=by simp
    have l1:=bE rs gv
    have l2:=bE j1 B9
    have l3:=bE r2 hr
    have e2:eV (rows (rs++(j1++j2))) (rs.length*k) (rows r2).toList=rows (rs++r2++j2):=by
     unfold rows
     rw[List.flatten_append,List.flatten_append,List.toList_toArray,fY _ _ _ (by rw[List.length_append,List.length_append,l1,l2,l3,hj];omega)]
     congr 1
     rw[List.flatten_append,List.flatten_append,←l1,List.take_left,l3,←hj,←l2,List.drop_append,←List.append_assoc]
     simp[List.drop_append]
    rw[e,e2]
   ·intro x hx
    simp only[List.append_assoc,List.mem_append]at hx
    rcases hx with hx|hx|hx
    ·exact gv x hx
    ·exact hr x hx
    ·exact aF x (by simp[hx])
  ·refine⟨A++([(b',_)]++B),?_,hk _ [(b',_)] (.inr ⟨b',List.replicate (cG-(rs.length+r2.length)) z,?_,rfl,?_⟩)⟩
   ·rw[BB,gT z yn,bP,bP]
    exact fun g w h=>(aS.Bn [[_],A,[_],B] [[_],A,[_],B] ((List.perm_append_comm (l₁:=[_,A]) (l₂:=[_])).append_right [B]|>.trans (.cons _ (.swap _ _ _))) g w h).tail
   ·simp;omega
   ·intro x hx
    rcases List.mem_append.1 hx with hx|hx
    ·rcases List.mem_append.1 hx with hx|hx
     ·exact gv x hx
     ·exact hr x hx
    ·rw[List.eq_of_mem_replicate hx,yn]
def au(T:TypeId)(kd:IntKind)(v:Value)(l:List Int)(C:Hp):Prop:=aD T 1 v (l.map fun n=>[Value.int kd n]) C
theorem au.nil{T:TypeId}{kd:IntKind}:au T kd (.slice none 0 0) [] []:=aD.nil _ _
theorem au.cN{T:TypeId}{kd:IntKind}{v:Value}{l:List Int}{C:Hp}(h:au T kd v l C){K:Value→Prop}(hk:K (.int .i64 l.length)):bM v K:=aD.cN h (by simpa using hk)
theorem au.ints{T:TypeId}{kd:IntKind}{v:Value}{l:List Int}{C:Hp}(h:au T kd v l C):dw kd C v l:=Sl.lF h (by decide)
theorem au.app{T:TypeId}{kd:IntKind}{v:Value}{l:List Int}{C A B:Hp}{bytes:Nat}(h:au T kd v l C){xb xc:Nat}{x:Int}{xT:TypeId}{fz:Nat×Nat}(hx:(xb,Obj.cells (ai kd [x]) xT fz)∈A++(C++B))
 (hb:(l.length+1)*bytes≤140737488355328)(hm:l.length+1≤9223372036854775807){K:Value→Hp→Prop}(hk:∀v' C',au T kd v' (l++[x]) C'→K v' (A++(C'++B))):App P T 1 bytes (.int kd 0) (A++(C++B)) v (.slice (some ⟨xb,0,none⟩) 1 xc) K:=
 aD.yW (r:=[.int kd x]) h hx rfl (by simp[Value.oneCell']) ⟨[.int kd 0],rfl,rfl⟩ (by simpa using hb) (by simpa using hm) fun v' C' ho=>hk v' C' (by unfold au;simpa using ho)
theorem au.apps{T:TypeId}{kd:IntKind}{v x:Value}{l l2:List Int}{C A B:Hp}{bytes:Nat}(h:au T kd v l C)(hx:dw kd (A++(C++B)) x l2)
 (hb:(l.length+l2.length)*bytes≤140737488355328)(hm:l.length+l2.length≤9223372036854775807){K:Value→Hp→Prop}(hk:∀v' C',au T kd v' (l++l2) C'→K v' (A++(C'++B))):App P T 1 bytes (.int kd 0) (A++(C++B)) v x K:=by
 obtain⟨a,cap,rfl,hc⟩:=Sl.cells hx
 exact aD.apps h hc (by simp) (by simp[Value.oneCell']) ⟨[.int kd 0],rfl,rfl⟩ (by simpa using hb) (by simpa using hm) fun v' C' ho=>hk v' C' (by unfold au;rw[List.map_append];exact ho)
end
end Go.Sx
namespace Go.Sx
open Go
section
variable {P:Program}
theorem oI{e:TypeId}{i:TypeInfo}(hi:P.info? e=some i)(hs:i.size=1):P.cellsOf e=1:=by simp[Program.cellsOf,hi,hs]
theorem gZ{e:TypeId}{q:IntKind}(hu:P.underlying e=some (.int q)){l:List Int}{j:Nat}{x:Int}(h:l[j]? =some x)(w:World):(part e (ai q l) j).run P w=.ok (.int q x) w:=by
 simp[part,isAgg,run_underlying hu,ai,h]
theorem ia{e:TypeId}{q:IntKind}(hu:P.underlying e=some (.int q))(hc:P.cellsOf e=1)(d:Nat)(l l':List Int)(w:World):∀is:List Nat,(∀i∈is,i<l.length∧i<l'.length)→
  (Op.eqItems (d+1) e (P.cellsOf e) (ai q l) (ai q l') is).run P w=.ok (is.all fun i=>l[i]? ==l'[i]?) w
 | [],_=>by simp[Op.eqItems]
 |i::is,h=>by
  obtain⟨h1,h2⟩:=h i (by simp)
  have g1:l[i]? =some l[i]:=List.getElem?_eq_getElem h1
  have g2:l'[i]? =some l'[i]:=List.getElem?_eq_getElem h2
  have p1:=gZ (P:=P) hu g1 w
  have p2:=gZ (P:=P) hu g2 w
  have p3:(Op.equalIn (d+1) e (.int q l[i]) (.int q l'[i])).run P w=.ok (l[i]==l'[i]) w:=by
   simp only[Op.equalIn,Sem.run_bind,run_underlying hu,Result.andThen_ok,if_true,Sem.run_pure]
  have ih:=ia hu hc d l l' w is fun j hj=>h j (by simp[hj])
  simp only[Op.eqItems,hc,Nat.mul_one,Sem.run_bind,p1,p2,p3,Result.andThen_ok]at ih⊢
  rw[List.all_cons,g1,g2]
  cases hb:(l[i]==l'[i])
  ·simp[hb]
  ·simp[hb,ih]
theorem sK.array{t e:TypeId}{q:IntKind}{n:Nat}(ht:P.underlying t=some (.array n e))(hu:P.underlying e=some (.int q))(hz:bR P e=some 1)(l l':List Int)(h1:l.length=n)(h2:l'.length=n):
  sK P t (.agg (ai q l)) (.agg (ai q l')) (decide (l=l')):=by
 obtain⟨i,hi,hs⟩:=aI hz
 have hc:=oI hi hs
 intro w
 show(Op.equalIn (9998+1+1) t _ _).run P w=_
 rw[run_equalIn_array w (9998+1) _ _ ht hi,ia hu hc 9998 l l' w _ (fun j hj=>by have:=List.mem_range.1 hj;omega)]
 congr 1
 rw[Bool.eq_iff_iff]
 simp only[List.all_eq_true,List.mem_range,decide_eq_true_eq,beq_iff_eq]
 constructor
 ·intro h
  apply List.ext_getElem?
  intro j
  by_cases hj:j<n
  ·exact h j hj
  ·rw[List.getElem?_eq_none (by omega),List.getElem?_eq_none (by omega)]
 ·rintro rfl j _;rfl
theorem gP.array{t e:TypeId}{q:IntKind}{n:Nat}(ht:P.underlying t=some (.array n e))(hu:P.underlying e=some (.int q))(hz:bR P e=some 1)(l:List Int)(h1:l.length=n):gP P t (.agg (ai q l)):=by
 obtain⟨i,hi,hs⟩:=aI hz
 intro b w
 have gen:∀d,(Instr.checkKey b (d+1+1) t (.agg (ai q l))).run P w=.ok () w:=by
  intro d
  have p2:∀x:Int,(Instr.checkKey b (d+1) e (.int q x)).run P w=.ok () w:=fun x=>by
   simp only[Instr.checkKey,Sem.run_bind,run_underlying hu,Result.andThen_ok,Sem.run_pure]
  unfold Instr.checkKey
  simp only[Sem.run_bind,run_underlying ht,Result.andThen_ok]
  simp only[Std.Legacy.Range.forIn_eq_forIn_range',Std.Legacy.Range.size,Nat.sub_zero,Nat.add_one_sub_one,Nat.div_one]
  have key:∀is:List Nat,(∀j∈is,j<l.length)→(forIn is PUnit.unit fun j (_:PUnit)=>(do
     Instr.checkKey b (d+1) e (←part e (ai q l) (j*(←sizeOf e)))
     pure (ForInStep.yield PUnit.unit):Sem (ForInStep PUnit))).run P w=.ok PUnit.unit w:=by
   intro is
   induction is with
   |nil=>intro _;simp
   |cons j is ih=>
    intro h
    have p1:=gZ (P:=P) hu (List.getElem?_eq_getElem (h j (by simp))) w
    simp only[List.forIn_cons,Sem.run_bind,run_sizeOf hi,Result.andThen_ok,hs,Nat.mul_one,p1,p2,Sem.run_pure]
    exact ih fun k hk=>h k (by simp[hk])
  have:=key (List.range' 0 n) (fun j hj=>by have:=List.mem_range'_1.1 hj;omega)
  rw[this];rfl
 exact gen 9998
end
end Go.Sx
namespace Go.Sx
open Go
section
variable {P:Program} {g:Gh} {H:Hp}
theorem dn.struct{o:Oper}{ρ:Operand→Value}{k:Value→Prop}{neq:Bool}{t yt:TypeId}{x y:Operand}{xs ys:Array Value}{b:Bool}(ho:o.op=.binOp (cond neq .neq .eql) t x y yt)(hx:ρ x=.agg xs)(hy:ρ y=.agg ys)
 (hg:P.eqGuardType P.depth t=false)(hu:P.underlying t=some (.struct (P.fieldsOf t)))(hp:P.stoodInHeld t=false)
 (he:∀w,(Op.eqFields 9999 xs ys (P.fieldsOf t).toList).run P w=.ok b w)(hk:k (.bool (cond neq (!b) b))):dn P g o ρ H k:=by
 obtain⟨dst,op,type,pos,after,guard⟩:=o
 simp only at ho
 subst ho
 obtain⟨v,h1,h2⟩:=Reads.mk (P:=P) (g:=g) (H:=H) (o:=⟨dst,.binOp (cond neq .neq .eql) t x y yt,type,pos,after,guard⟩) (ρ:=ρ) (k:=k) (s:=do eqGuard (cond neq .neq .eql) t x y (ρ x) (ρ y);binOp (cond neq .neq .eql) t (ρ x) (ρ y)) rfl
  ⟨.bool (cond neq (!b) b),hk,fun w _=>by
   rw[hx,hy]
   simp only[Sem.run_bind,run_eqGuard_agg w _ t x y xs ys hg,Result.andThen_ok]
   cases neq
   ·simp only[cond_false];rw[run_eql_struct,show(10000:Nat)=9999+1 from rfl,run_equalIn_struct w 9999 t xs ys hu hp,he];rfl
   ·simp only[cond_true];rw[run_neq_struct,show(10000:Nat)=9999+1 from rfl,run_equalIn_struct w 9999 t xs ys hu hp,he];rfl⟩
 exact⟨v,h2,h1⟩
end
end Go.Sx
namespace Go.Sx
open Go
section
variable {P:Program} {g:Gh} {H:Hp}
def kK(P:Program)(t:TypeId)(x y:Value):Prop:=
 (∃q a b,P.underlying t=some (.int q)∧x=.int q a∧y=.int q b)∨(∃a b,P.underlying t=some .bool∧x=.bool a∧y=.bool b)
theorem kK.eq{t:TypeId}{x y:Value}(h:kK P t x y)(d:Nat)(w:World):∃b,(Op.equalIn (d+1) t x y).run P w=.ok b w∧(b=true↔x=y):=by
 rcases h with⟨q,a,b,hu,rfl,rfl⟩|⟨a,b,hu,rfl,rfl⟩
 ·exact⟨a==b,by simp[Op.equalIn,run_underlying hu],by simp⟩
 ·exact⟨a==b,by simp[Op.equalIn,run_underlying hu],by simp⟩
theorem gG{t:TypeId}{xs:Array Value}{o:Nat}{x:Value}(hu:(∃q,P.underlying t=some (.int q))∨P.underlying t=some .bool)(h:xs[o]? =some x)(w:World):(part t xs o).run P w=.ok x w:=by
 rcases hu with⟨q,hu⟩|hu<;>simp[part,isAgg,run_underlying hu,h]
theorem gz(d:Nat)(xs ys:Array Value)(w:World):∀fs:List Field,(∀f∈fs,f.name≠ "_" ∧∃x y,xs[f.offset]? =some x∧ys[f.offset]? =some y∧kK P f.type x y)→
  ∃b,(Op.eqFields (d+1) xs ys fs).run P w=.ok b w∧(b=true↔∀f∈fs,xs[f.offset]? =ys[f.offset]?)
 | [],_=>⟨true,by simp[Op.eqFields],by simp⟩
 |f::fs,h=>by
  obtain⟨hn,x,y,hx,hy,hp⟩:=h f (by simp)
  obtain⟨b',ih,hb'⟩:=gz d xs ys w fs fun g hg=>h g (by simp[hg])
  have hu:(∃q,P.underlying f.type=some (.int q))∨P.underlying f.type=some .bool:=by
   rcases hp with⟨q,_,_,hu,_⟩|⟨_,_,hu,_⟩
   ·exact .inl ⟨q,hu⟩
   ·exact .inr hu
  obtain⟨b,hr,hb⟩:=hp.eq d w
  have p1:=gG hu hx w
  have p2:=gG hu hy w
  cases b with
  |false=>
   refine⟨false,by simp[Op.eqFields,hn,p1,p2,hr],?_⟩
   simp only[Bool.false_eq_true,List.mem_cons,forall_eq_or_imp,false_iff,hx,hy,Option.some.injEq]
   exact fun hh=>absurd (hb.2 hh.1) (by decide)
  |true=>
   refine⟨b',by simp[Op.eqFields,hn,p1,p2,hr,ih],?_⟩
   rw[hb']
   simp only[List.mem_cons,forall_eq_or_imp,hx,hy,Option.some.injEq,hb.1 rfl,true_and]
theorem sK.flat{t:TypeId}{fs:Array Field}(ht:P.underlying t=some (.struct fs))(hp:P.stoodInHeld t=false){xs ys:Array Value}{p:Prop}[Decidable p]
 (h:∀f∈fs.toList,f.name≠ "_" ∧∃x y,xs[f.offset]? =some x∧ys[f.offset]? =some y∧kK P f.type x y)(he:(∀f∈fs.toList,xs[f.offset]? =ys[f.offset]?)↔p):sK P t (.agg xs) (.agg ys) (decide p):=by
 have e:P.fieldsOf t=fs:=by simp[Program.fieldsOf,ht]
 intro w
 show(Op.equalIn (9998+1+1) t _ _).run P w=_
 rw[run_equalIn_struct w (9998+1) t xs ys (by rw[e];exact ht) hp,e]
 obtain⟨b,hr,hb⟩:=gz (P:=P) 9998 xs ys w fs.toList h
 rw[hr]
 congr 1
 rw[Bool.eq_iff_iff,hb,he,decide_eq_true_eq]
theorem gP.flat{t:TypeId}{fs:Array Field}(ht:P.underlying t=some (.struct fs)){xs:Array Value}
 (h:∀f∈fs.toList,f.name≠ "_" ∧∃x,xs[f.offset]? =some x∧kK P f.type x x):gP P t (.agg xs):=by
 intro b w
 have gen:∀d,(Instr.checkKey b (d+1+1) t (.agg xs)).run P w=.ok () w:=by
  intro d
  unfold Instr.checkKey
  simp only[Sem.run_bind,run_underlying ht,Result.andThen_ok]
  rw[←Array.forIn_toList]
  clear ht
  generalize fs.toList=l at h
  induction l with
  |nil=>simp
  |cons f l ih=>
   obtain⟨hn,x,hx,hp⟩:=h f (by simp)
   have hu:(∃q,P.underlying f.type=some (.int q))∨P.underlying f.type=some .bool:=by
    rcases hp with⟨q,_,_,hu,_⟩|⟨_,_,hu,_⟩
    ·exact .inl ⟨q,hu⟩
    ·exact .inr hu
   have p1:=gG hu hx w
   have p2:(Instr.checkKey b (d+1) f.type x).run P w=.ok () w:=by
    rcases hp with⟨q,a,_,hu,rfl,_⟩|⟨a,_,hu,rfl,_⟩
    ·simp only[Instr.checkKey,Sem.run_bind,run_underlying hu,Result.andThen_ok,Sem.run_pure]
    ·simp only[Instr.checkKey,Sem.run_bind,run_underlying hu,Result.andThen_ok,Sem.run_pure]
   have:=ih fun g hg=>h g (by simp[hg])
   simp only[List.forIn_cons,Sem.run_bind]
   simp[hn,p1,p2]
   simpa using this
 exact gen 9998
theorem gp(n:Nat){xs:Array Value}(h:∀x∈xs.toList,(∃q a,x=.int q a)∨∃a,x=.bool a):Instr.sameBits (n+1+1) (.agg xs) (.agg xs)=true:=by
 simp only[Instr.sameBits,beq_self_eq_true,Bool.true_and,List.all_eq_true]
 intro x hx
 obtain⟨a,b⟩:=x
 have h1:=List.of_mem_zip hx
 have e:a=b:=by
  obtain⟨i,hi,he⟩:=List.mem_iff_getElem.1 hx
  simp at he
  exact he.1.symm.trans he.2
 subst e
 rcases h a h1.1 with⟨q,z,rfl⟩|⟨z,rfl⟩<;>simp[Instr.sameBits]
end
section
variable {κ:Type} [DecidableEq κ] {β:Type} {ke:κ→Value} {vr:Value→β→Prop} {es:Array MapEntry} {ck b:Nat} {m:List (κ×β)} {P:Program} {H:Hp}
def k7(m:List (κ×β))(k:κ):List (κ×β):=m.filter fun y=>¬y.1=k
theorem lP{k k':κ}:aU (k7 m k) k'=if k'=k then none else aU m k':=by
 unfold aU k7
 rw[List.find?_filter]
 by_cases e:k'=k
 ·rw[if_pos e]
  rw[List.find?_eq_none.2]
  ·rfl
  ·intro x _;simp;intro h1 h2;exact h1 (h2.trans e)
 ·rw[if_neg e]
  congr 1
  congr 1
  funext y
  by_cases e2:y.1=k'
  ·have:¬y.1=k:=fun e3=>e (e2.symm.trans e3)
   simp[e2,this,e]
  ·simp[e2]
theorem bY{k k':κ}{x:β}:aU (dV m k x) k'=if k'=k then some x else aU m k':=by
 unfold aU dV
 by_cases hk:k∈m.map Prod.fst
 ·rw[if_pos hk]
  by_cases e:k'=k
  ·subst e
   rw[if_pos rfl]
   induction m with
   |nil=>simp at hk
   |cons y m ih=>
    rw[List.map_cons,List.find?_cons]
    by_cases ey:y.1=k'
    ·simp[ey]
    ·rw[if_neg ey]
     simp only[ey,decide_false]
     rw[ih]
     rw[List.map_cons]at hk
     rcases List.mem_cons.1 hk with h|h
     ·exact absurd h.symm ey
     ·simpa using h
  ·rw[if_neg e]
   have:∀l:List (κ×β),(List.find? (fun y=>decide (y.1=k')) (l.map fun y=>if y.1=k then(k,x)else y)).map Prod.snd=(List.find? (fun y=>decide (y.1=k')) l).map Prod.snd:=by
    intro l
    induction l with
    |nil=>rfl
    |cons y l ih=>
     rw[List.map_cons,List.find?_cons,List.find?_cons]
     by_cases ey:y.1=k
     ·have h1:decide (k=k')=false:=by simpa using fun h=>e h.symm
      have h2:decide (y.1=k')=false:=by rw[ey];exact h1
      simp only[if_pos ey,h1,h2]
      exact ih
     ·simp only[if_neg ey]
      cases decide (y.1=k')with
      |true=>rfl
      |false=>exact ih
   exact this m
 ·rw[if_neg hk]
  rw[List.find?_append]
  by_cases e:k'=k
  ·subst e
   have:List.find? (fun y=>decide (y.1=k')) m=none:=by
    rw[List.find?_eq_none];intro y hy;simp;intro h;exact hk (List.mem_map.2 ⟨y,hy,h⟩)
   simp[this]
  ·have:¬k=k':=fun h=>e h.symm
   rw[if_neg e]
   cases List.find? (fun y=>decide (y.1=k')) m<;>simp[this]
theorem pz(nd:(m.map Prod.fst).Nodup){i:Nat}{k:κ}{y:β}(hi:m[i]? =some (k,y)):k7 m k=m.eraseIdx i:=by
 unfold k7
 induction m generalizing i with
 |nil=>simp at hi
 |cons z m ih=>
  rw[List.map_cons,List.nodup_cons]at nd
  cases i with
  |zero=>
   simp at hi;subst hi
   rw[List.eraseIdx_cons_zero,List.filter_cons_of_neg (by simp)]
   rw[List.filter_eq_self]
   intro w hw
   simp only[decide_not,Bool.not_eq_true',decide_eq_false_iff_not]
   intro e
   exact nd.1 (List.mem_map.2 ⟨w,hw,e⟩)
  |succ i=>
   simp at hi
   have hz:¬z.1=k:=fun e=>nd.1 (List.mem_map.2 ⟨_,List.mem_of_getElem? hi,e.symm⟩)
   rw[List.eraseIdx_cons_succ,List.filter_cons_of_pos (by simpa using hz),ih nd.2 hi]
omit [DecidableEq κ] in
theorem aH.less(h:aH ke vr es ck m)(i:Nat):aH ke vr (es.eraseIdxIfInBounds i) ck (m.eraseIdx i):=by
 have hl:(es.eraseIdxIfInBounds i).toList=es.toList.eraseIdx i:=by
  unfold Array.eraseIdxIfInBounds
  split
  ·simp
  ·rename_i hh;rw[List.eraseIdx_of_length_le (by simpa using hh)]
 refine⟨?_,fun j e x he hx=>?_,?_,?_,fun e he=>?_⟩
 ·have:=congrArg List.length hl
  rw[Array.length_toList,List.length_eraseIdx]at this
  rw[this,List.length_eraseIdx,Array.length_toList,h.len]
 ·rw[←Array.getElem?_toList,hl,List.getElem?_eraseIdx]at he
  rw[List.getElem?_eraseIdx]at hx
  split at he
  ·rename_i hh;rw[if_pos hh]at hx;exact h.key j e x (by simpa using he) hx
  ·rename_i hh;rw[if_neg hh]at hx;exact h.key (j+1) e x (by simpa using he) hx
 ·rw[←fh];exact h.nd.sublist (List.eraseIdx_sublist _ _)
 ·rw[hl,←fh];exact h.born.sublist (List.eraseIdx_sublist _ _)
 ·rw[hl]at he;exact h.lt e (List.mem_of_mem_eraseIdx he)
theorem aH.Fo{P:Program}{kt:TypeId}{k:κ}{K:Hp→Prop}(hk:∀a b,sK P kt (ke a) (ke b) (decide (a=b)))(hc:∀a,gP P kt (ke a))(h:aH ke vr es ck m)(hm:(b,Obj.map es ck)∈H)
 (h1:∀es',aH ke vr es' ck (k7 m k)→∃H',cv b (.map es ck) (.map es' ck) H H'∧K H'):iz P kt H (.map (some b)) (ke k) K:=by
 refine⟨hc k,.inr ?_⟩
 rcases h.sw hk k with⟨i,y,e,g1,g2,g3,g4⟩|⟨g1,g2⟩
 ·refine⟨b,es,ck,_,rfl,g4,?_⟩
  have:=h.less i
  rw[←pz h.nd g2]at this
  exact h1 _ this
 ·refine⟨b,es,ck,_,rfl,g2,hm,?_⟩
  have e:k7 m k=m:=by
   unfold k7
   rw[List.filter_eq_self]
   intro w hw
   simp only[decide_not,Bool.not_eq_true',decide_eq_false_iff_not]
   intro e
   exact g1 (List.mem_map.2 ⟨w,hw,e⟩)
  obtain⟨H',hu,hK⟩:=h1 es (by rw[e];exact h)
  have:∀{H H':Hp},cv b (.map es ck) (.map es ck) H H'→H'=H:=by
   intro H H' hu
   generalize ho:Obj.map es ck=o at hu
   induction hu with
   |head R=>rfl
   |tail _ ih=>rw[ih]
  rw[this hu]at hK;exact hK
end
section
variable {P:Program} {H:Hp}
theorem aD.FV{T:TypeId}{k:Nat}{v:Value}{rs:List (List Value)}{C:Hp}(hs:aD T k v rs C){i:Nat}{kd:IntKind}{r:List Value}(hr:rs[i]? =some r)(hC:∀y∈C,y∈H){K:Value→Prop}(hk:K (.agg r.toArray)):
  ah k v (.int kd (i:Int)) fun p=>aB k H p K:=by
 have hi:=(List.getElem?_eq_some_iff.1 hr).1
 obtain⟨b',aK,rfl,rfl,aF⟩:=hs.pos (by omega)
 exact ah.nat hi (aB.row (hC _ (List.Mem.head _)) aF (by rw[List.getElem?_append_left hi];exact hr) hk)
theorem aD.Ae{T:TypeId}{k:Nat}{v x:Value}{rs:List (List Value)}{C:Hp}(hs:aD T k v rs C){i j:Nat}{kd:IntKind}{r:List Value}(hr:rs[i]? =some r)(hj:r[j]? =some x)(hC:∀y∈C,y∈H){K:Value→Prop}(hk:K x):
  ah k v (.int kd (i:Int)) fun p=>aj j p fun q=>Ld H q K:=by
 have hi:=(List.getElem?_eq_some_iff.1 hr).1
 obtain⟨b',aK,rfl,rfl,aF⟩:=hs.pos (by omega)
 exact ah.nat hi (aj.mk (Ld.row (hC _ (List.Mem.head _)) aF (by rw[List.getElem?_append_left hi];exact hr) hj hk))
theorem aD.A1{T:TypeId}{v x:Value}{rs:List (List Value)}{C:Hp}(hs:aD T 1 v rs C){i:Nat}{kd:IntKind}(hr:rs[i]? =some [x])(hC:∀y∈C,y∈H){K:Value→Prop}(hk:K x):
  ah 1 v (.int kd (i:Int)) fun p=>Ld H p K:=by
 have hi:=(List.getElem?_eq_some_iff.1 hr).1
 obtain⟨b',aK,rfl,rfl,aF⟩:=hs.pos (by omega)
 exact ah.nat hi (Ld.Bp (l:=rs++aK) (hC _ (List.Mem.head _)) aF (by rw[List.getElem?_append_left hi];exact hr) hk)
theorem aD.Ad{T:TypeId}{k n:Nat}{v:Value}{rs:List (List Value)}{C:Hp}(hs:aD T k v rs C){i:Nat}{kd:IntKind}{r:List Value}(hr:rs[i]? =some r)(hn:0<n∧n≤k)(hC:∀y∈C,y∈H){K:Value→Prop}(hk:K (.agg (r.take n).toArray)):
  ah k v (.int kd (i:Int)) fun p=>aj 0 p fun q=>aB n H q K:=by
 have hi:=(List.getElem?_eq_some_iff.1 hr).1
 obtain⟨b',aK,rfl,rfl,aF⟩:=hs.pos (by omega)
 have Jv:r.length=k:=aF r (List.mem_append_left _ (List.mem_of_getElem? hr))
 refine ah.nat hi (aj.mk ?_)
 have Ih:At H (.pointer (some ⟨b',0+i*k+0,none⟩)) (r.take n):=⟨b',_,_,_,_,rfl,hC _ (List.Mem.head _),fun j x hj=>by
  have As:j<n:=by have:=(List.getElem?_eq_some_iff.1 hj).1;simp at this;omega
  rw[List.getElem?_take,if_pos As]at hj
  rw[Nat.add_zero,Nat.zero_add,df aF (by omega),List.getElem?_append_left hi,hr];exact hj⟩
 exact aB.at Ih (by simp;omega) hn.1 (fun _ h=>h) hk
theorem aD.u5{T:TypeId}{k:Nat}{v:Value}{rs:List (List Value)}{C A B:Hp}(hs:aD T k v rs C){i:Nat}{kd:IntKind}{xs:List Value}(hi:i<rs.length)(hx:xs.length=k)(h1:∀x∈xs,x.oneCell'=true){K:Hp→Prop}
 (hk:∀C',aD T k v (rs.set i xs) C'→K (A++(C'++B))):ah k v (.int kd (i:Int)) fun p=>St k (A++(C++B)) p (.agg xs.toArray) K:=by
 obtain⟨b',aK,rfl,rfl,aF⟩:=hs.pos (by omega)
 refine ah.nat hi (St.row (l:=rs++aK) (((cv.head _).append B).cm A) aF (by simp;omega) hx h1 ?_)
 have e:(rs++aK).set i xs=rs.set i xs++aK:=by rw[List.set_append_left _ _ hi]
 rw[e]
 refine hk [(b',_)] (aD.mk' (aK:=aK) (fun y hy=>?_) (by simp) (by simp))
 rcases List.mem_append.1 hy with hy|hy
 ·rcases List.mem_or_eq_of_mem_set hy with hy|rfl
  ·exact aF y (List.mem_append_left _ hy)
  ·exact hx
 ·exact aF y (List.mem_append_right _ hy)
theorem au.ld{T:TypeId}{kd mW:IntKind}{v:Value}{l:List Int}{C:Hp}(hs:au T kd v l C){i:Nat}{x:Int}(hx:l[i]? =some x)(hC:∀y∈C,y∈H){K:Value→Prop}(hk:K (.int kd x)):ah 1 v (.int mW (i:Int)) fun p=>Ld H p K:=
 aD.A1 hs (x:=.int kd x) (by simp[hx]) hC hk
theorem au.put{T:TypeId}{kd mW:IntKind}{v:Value}{l:List Int}{C A B:Hp}(hs:au T kd v l C){i:Nat}{x:Int}(hi:i<l.length){K:Hp→Prop}
 (hk:∀C',au T kd v (l.set i x) C'→K (A++(C'++B))):ah 1 v (.int mW (i:Int)) fun p=>St 1 (A++(C++B)) p (.int kd x) K:=by
 have hi':i<(l.map fun n=>[Value.int kd n]).length:=by simpa using hi
 obtain⟨b',aK,rfl,rfl,aF⟩:=aD.pos hs (by omega)
 refine ah.nat hi' ?_
 refine St.cell (l:=l.map (fun n=>[Value.int kd n])++aK) (i:=i) (k:=1) (j:=0) (r:=[.int kd l[i]]) (((cv.head _).append B).cm A) aF (by rw[List.getElem?_append_left hi'];simp[hi]) (by omega) rfl ?_
 have e:(l.map (fun n=>[Value.int kd n])++aK).set i ([Value.int kd l[i]].set 0 (.int kd x))=(l.set i x).map (fun n=>[Value.int kd n])++aK:=by
  rw[List.set_append_left _ _ hi',List.map_set];rfl
 rw[e]
 refine hk [(b',_)] (aD.mk' (aK:=aK) (fun r hr'=>?_) (by simp) (by simp))
 rcases List.mem_append.1 hr' with hr'|hr'
 ·obtain⟨y,_,rfl⟩:=List.mem_map.1 hr';rfl
 ·exact aF r (List.mem_append_right _ hr')
theorem aS.nil{H:Hp}:aS H []:=fun _ _ h=>h.bu
theorem aD.cut{T:TypeId}{k i:Nat}{v:Value}{rs:List (List Value)}{C:Hp}(hs:aD T k v rs C)(hi:i≤rs.length){kd:IntKind}{K:Value→Prop}(hk:∀v',aD T k v' (rs.take i) C→K v'):
  dm k v none (some (.int kd (i:Int))) K:=by
 by_cases hp:0<rs.length
 ·obtain⟨b',aK,rfl,rfl,aF⟩:=hs.pos hp
  refine dm.upto (by omega) (hk _ ?_)
  have e:rs++aK=rs.take i++(rs.drop i++aK):=by rw[←List.append_assoc,List.take_append_drop]
  rw[e]at aF⊢
  exact aD.mk' aF (by simp;omega) (by simp;omega)
 ·obtain rfl:rs=[]:=List.eq_nil_of_length_eq_zero (by omega)
  obtain rfl:i=0:=by simpa using hi
  obtain⟨a,c,rfl⟩:=hs.len
  exact dm.upto (Nat.zero_le _) (hk _ (by simpa using hs))
theorem au.cut{T:TypeId}{kd mW:IntKind}{i:Nat}{v:Value}{l:List Int}{C:Hp}(hs:au T kd v l C)(hi:i≤l.length){K:Value→Prop}(hk:∀v',au T kd v' (l.take i) C→K v'):
  dm 1 v none (some (.int mW (i:Int))) K:=
 aD.cut hs (by simpa using hi) fun v' h=>hk v' (by unfold au;rw[List.map_take];exact h)
end
end Go.Sx
