import Derived.WalkKit
import Derived.Still
import Derived.KernelRfl
import Derived.Deep.Quiet
import Derived.OrdersHeld
import Derived.ProofKit
import Derived.OpenShut
import Derived.Below
import Derived.ChangeKeysEq
import Derived.Laws.StructEq
set_option linter.unusedVariables false
set_option linter.unusedSimpArgs false
set_option linter.unusedSectionVars false
theorem zM{α:Type _}{x:α}{l:List α}(h:x∈l:=by repeat (first|assumption|exact List.Mem.head _|apply List.Mem.tail|apply List.mem_append_right)):x∈l:=h
theorem zS{α:Type _}{A B:List α}(h:∀x∈A,x∈B:=by intro _ h;repeat (first|exact h|apply List.mem_cons_of_mem|apply List.mem_append_right)):∀x∈A,x∈B:=h
namespace Go.Sx
open Go
abbrev Hp:=List (Nat×Obj)
structure Gh where
 w:World
 fr:Hp
def Gh.add(g:Gh)(F:Hp):Gh:=⟨g.w,F++g.fr⟩
structure Own(g:Gh)(H:Hp)(w:World):Prop where
 os:w.os=g.w.os
 out:w.output=g.w.output
 tape:w.tape=g.w.tape
 nd:((H++g.fr).map Prod.fst).Nodup
 rH:∀x,x∈H++g.fr→w.heap[x.1]? =some x.2
theorem Own.has{g:Gh}{H:Hp}{w:World}(h:Own g H w)(x:Nat×Obj)(hx:x∈H):w.heap[x.1]? =some x.2:=h.rH x (List.mem_append_left _ hx)
theorem Own.perm{g:Gh}{H H':Hp}{w:World}(h:Own g H w)(p:H.Perm H'):Own g H' w:=
 ⟨h.os,h.out,h.tape,((p.append_right _).map _).nodup_iff.1 h.nd,fun x hx=>h.rH x ((p.append_right _).mem_iff.2 hx)⟩
theorem Own.right{g:Gh}{A B:Hp}{w:World}(h:Own g (A++B) w):Own g B w:=
 ⟨h.os,h.out,h.tape,by have:=h.nd;rw[List.append_assoc,List.map_append]at this;exact(List.nodup_append.1 this).2.1,fun x hx=>h.rH x (by rw[List.append_assoc];exact List.mem_append_right _ hx)⟩
theorem Own.left{g:Gh}{A B:Hp}{w:World}(h:Own g (A++B) w):Own g A w:=Own.right (A:=B) (h.perm List.perm_append_comm)
theorem Own.tail{g:Gh}{x:Nat×Obj}{B:Hp}{w:World}(h:Own g (x::B) w):Own g B w:=Own.right (A:=[x]) h
theorem Own.dz{g:Gh}{A F:Hp}{w:World}:Own g (A++F) w↔Own (g.add F) A w:=by
 constructor
 ·intro h;exact⟨h.os,h.out,h.tape,by have:=h.nd;rw[List.append_assoc]at this;exact this,fun x hx=>h.rH x (by rw[List.append_assoc];exact hx)⟩
 ·intro h;exact⟨h.os,h.out,h.tape,by have:=h.nd;rw[List.append_assoc];exact this,fun x hx=>h.rH x (by rw[List.append_assoc]at hx;exact hx)⟩
def aR(H H':Hp):Prop:=∀g w,Own g H w→Own g H' w
theorem aR.refl(H:Hp):aR H H:=fun _ _ h=>h
theorem aR.trans{A B C:Hp}(h:aR A B)(h':aR B C):aR A C:=fun g w x=>h' g w (h g w x)
theorem aR.perm{A B:Hp}(p:A.Perm B):aR A B:=fun _ _ h=>h.perm p
theorem aR.right{A B:Hp}:aR (A++B) B:=fun _ _ h=>h.right
theorem aR.left{A B:Hp}:aR (A++B) A:=fun _ _ h=>h.left
theorem aR.tail{x:Nat×Obj}{B:Hp}:aR (x::B) B:=fun _ _ h=>h.tail
theorem aR.frame{A B:Hp}(h:aR A B)(F:Hp):aR (A++F) (B++F):=fun _ _ o=>Own.dz.2 (h _ _ (Own.dz.1 o))
theorem aR.dx{A B:Hp}(h:aR A B)(F:Hp):aR (F++A) (F++B):=(aR.perm List.perm_append_comm).trans ((h.frame F).trans (.perm List.perm_append_comm))
inductive ct(b:Nat)(o o':Obj):Hp→Hp→Prop
 |head (R:Hp):ct b o o' ((b,o)::R) ((b,o')::R)
 |tail {x:Nat×Obj} {R R':Hp} (h:ct b o o' R R'):ct b o o' (x::R) (x::R')
theorem ct.mem{b:Nat}{o o':Obj}{H H':Hp}(h:ct b o o' H H'):(b,o)∈H:=by
 induction h with
 |head R=>simp
 |tail _ ih=>simp[ih]
theorem ct.keys{b:Nat}{o o':Obj}{H H':Hp}(h:ct b o o' H H'):H'.map Prod.fst=H.map Prod.fst:=by
 induction h with
 |head R=>simp
 |tail _ ih=>simp[ih]
theorem ct.zy{b:Nat}{o o':Obj}{H H':Hp}(h:ct b o o' H H')(nd:(H.map Prod.fst).Nodup):∀x∈H',x=(b,o')∨(x∈H∧x.1≠b):=by
 induction h with
 |head R=>
  intro x hx
  rcases List.mem_cons.1 hx with rfl|hx
  ·exact .inl rfl
  ·refine .inr ⟨by simp[hx],fun e=>?_⟩
   simp only[List.map_cons,List.nodup_cons]at nd
   exact nd.1 (e▸List.mem_map_of_mem hx)
 | @tail y R R' h ih=>
  intro x hx
  simp only[List.map_cons,List.nodup_cons]at nd
  rcases List.mem_cons.1 hx with rfl|hx
  ·refine .inr ⟨by simp,fun e=>?_⟩
   exact nd.1 (e▸List.mem_map_of_mem (f:=Prod.fst) h.mem)
  ·rcases ih nd.2 x hx with h1|h1
   ·exact .inl h1
   ·exact .inr ⟨by simp[h1.1],h1.2⟩
theorem ct.append{b:Nat}{o o':Obj}{C C':Hp}(h:ct b o o' C C')(B:Hp):ct b o o' (C++B) (C'++B):=by
 induction h with
 |head R=>exact .head _
 |tail _ ih=>exact .tail ih
theorem Own.bc{g:Gh}{H H':Hp}{w w':World}{b:Nat}{o o':Obj}(h:Own g H w)(u:ct b o o' H H')
 (hos:w'.os=w.os)(hout:w'.output=w.output)(Ch:w'.tape=w.tape)
 (hb:w'.heap[b]? =some o')(hr:∀c,c≠b→w'.heap[c]? =w.heap[c]?):Own g H' w':=
 ⟨hos.trans h.os,hout.trans h.out,Ch.trans h.tape,by rw[(u.append g.fr).keys];exact h.nd,fun x hx=>by
  rcases(u.append g.fr).zy h.nd x hx with rfl|⟨h1,h2⟩
  ·exact hb
  ·rw[hr _ h2];exact h.rH x h1⟩
theorem Own.same{g:Gh}{H:Hp}{w w':World}(h:Own g H w)(hos:w'.os=w.os)(hout:w'.output=w.output)(Ch:w'.tape=w.tape)
 (hr:∀(c:Nat) (o:Obj),w.heap[c]? =some o→w'.heap[c]? =some o):Own g H w':=
 ⟨hos.trans h.os,hout.trans h.out,Ch.trans h.tape,h.nd,fun x hx=>hr _ _ (h.rH x hx)⟩
theorem Own.drew{g:Gh}{H:Hp}{w:World}(h:Own g H w):Own g H w.drew:=h.same rfl rfl rfl fun _ _ h=>h
theorem Own.qx{g:Gh}{H:Hp}{w:World}(h:Own g H w):Own g H {w with drawn:=w.drawn+1}:=h.drew
theorem Own.Ng{g:Gh}{H:Hp}{w:World}(h:Own g H w){x:Nat×Obj}(hx:x∈H++g.fr):x.1<w.heap.size:=by
 have:=h.rH x hx
 exact(Array.getElem?_eq_some_iff.1 this).1
theorem Own.lt{g:Gh}{H:Hp}{w:World}(h:Own g H w){x:Nat×Obj}(hx:x∈H):x.1<w.heap.size:=h.Ng (List.mem_append_left _ hx)
theorem Own.Dm{g:Gh}{H:Hp}{w:World}(h:Own g H w):w.heap.size∉(H++g.fr).map Prod.fst:=by
 intro hm
 obtain⟨x,hx,e⟩:=List.mem_map.1 hm
 have:=h.Ng hx
 omega
theorem Own.fresh{g:Gh}{H:Hp}{w:World}(h:Own g H w):w.heap.size∉H.map Prod.fst:=fun hm=>h.Dm (by rw[List.map_append];exact List.mem_append_left _ hm)
theorem Own.alloc{g:Gh}{H:Hp}{w:World}(h:Own g H w)(o:Obj):Own g ((w.heap.size,o)::H) (w.alloc o):=by
 refine⟨h.os,h.out,h.tape,?_,?_⟩
 ·rw[List.cons_append,List.map_cons,List.nodup_cons];exact⟨h.Dm,h.nd⟩
 ·intro x hx
  rw[List.cons_append]at hx
  rcases List.mem_cons.1 hx with rfl|hx
  ·show(w.heap.push o)[w.heap.size]? =some o
   rw[Array.getElem?_push,if_pos rfl]
  ·have:=h.rH x hx
   have hl:=h.Ng hx
   show(w.heap.push o)[x.1]? =some x.2
   rw[Array.getElem?_push,if_neg (by omega)]
   exact this
theorem Own.cell{g:Gh}{H:Hp}{w:World}(h:Own g H w){b:Nat}{c:Array Value}{T:TypeId}{fz:Nat×Nat}(hm:(b,Obj.cells c T fz)∈H)(off:Nat):
  w.cell? ⟨b,off,none⟩=c[off]? :=by
 have:=h.has _ hm
 simp only[World.cell?]
 simp only at this
 rw[this]
 rfl
theorem Own.frozen{g:Gh}{H:Hp}{w:World}(h:Own g H w){b:Nat}{c:Array Value}{T:TypeId}(hm:(b,Obj.cells c T (0,0))∈H)(off:Nat)(sp:Option Nat):
  w.frozen? ⟨b,off,sp⟩=false:=by
 have:=h.has _ hm
 simp only at this
 simp[World.frozen?,this]
def fE(c:Array Value)(off:Nat):List Value→Array Value
 | []=>c
 |v::r=>fE (c.setIfInBounds off v) (off+1) r
theorem Own.setCell{g:Gh}{H:Hp}{w:World}(h:Own g H w){b:Nat}{c:Array Value}{T:TypeId}{fz:Nat×Nat}{H':Hp}(off:Nat)(v:Value)
 (u:ct b (.cells c T fz) (.cells (c.setIfInBounds off v) T fz) H H'):Own g H' (w.setCell ⟨b,off,none⟩ v):=by
 refine h.bc u rfl rfl rfl ?_ ?_
 ·have:=h.has _ u.mem
  simp only at this
  simp[World.setCell,Array.getElem?_modify,this]
 ·intro d hd
  simp only[World.setCell]
  rw[Array.getElem?_modify,if_neg (fun e=>hd (Eq.symm e))]
theorem ct.re{b:Nat}{o o':Obj}{H H':Hp}(u:ct b o o' H H')(o₁:Obj):∃H₁,ct b o o₁ H H₁∧ct b o₁ o' H₁ H':=by
 induction u with
 |head R=>exact⟨_,.head R,.head R⟩
 |tail _ ih=>obtain⟨H₁,u1,u2⟩:=ih;exact⟨_,.tail u1,.tail u2⟩
theorem dw{P:Program}{g:Gh}{b:Nat}{T:TypeId}(off:Nat):∀(l:List Value) (i:Nat) (c:Array Value) (H H':Hp) (w:World),Own g H w→
  ct b (.cells c T (0,0)) (.cells (fE c (off+i) l) T (0,0)) H H'→(∀v∈l,v.oneCell'=true)→off+i+l.length≤c.size→
  ∃w',(storeCells ⟨b,off,none⟩ l i).run P w=.ok () w'∧Own g H' w'
 | [],i,c,H,H',w,h,u,_,_=>by
  refine⟨w,rfl,?_⟩
  exact h.bc u rfl rfl rfl (h.has _ u.mem) fun _ _=>rfl
 |v::r,i,c,H,H',w,h,u,h1,hs=>by
  obtain⟨H₁,u1,u2⟩:=u.re (.cells (c.setIfInBounds (off+i) v) T (0,0))
  have kO:=h.setCell (off+i) v u1
  simp only[List.length_cons]at hs
  obtain⟨w',hr,ho⟩:=dw (P:=P) off r (i+1) (c.setIfInBounds (off+i) v) H₁ H' _ kO (by simpa[fE,Nat.add_assoc]using u2) (fun x hx=>h1 x (by simp[hx])) (by simp;omega)
  refine⟨w',?_,ho⟩
  have hc:w.cell? ⟨b,off+i,none⟩=some c[off+i]:=by
   rw[h.cell u.mem,Array.getElem?_eq_getElem]
  have hf:=h.frozen u.mem (off+i) none
  have ha:Addr.add ⟨b,off,none⟩ i=⟨b,off+i,none⟩:=Addr.add_lit _ _ _
  simp only[storeCells,Sem.run_bind,ha,run_store P w _ v .plain (h1 v (by simp)),hc,hf,Bool.false_eq_true,if_false,Result.andThen_ok,hr]
theorem fX{P:Program}{g:Gh}{H:Hp}{w:World}(h:Own g H w){b:Nat}{c:Array Value}{T:TypeId}{fz:Nat×Nat}(hm:(b,Obj.cells c T fz)∈H)
 (off n:Nat)(hs:off+n≤c.size):(loadCells ⟨b,off,none⟩ n).run P w=.ok (c.extract off (off+n)) w:=by
 have hl:((c.extract off (off+n)).toList).length=n:=by simp;omega
 have:=run_loadCells_list (P:=P) w ⟨b,off,none⟩ (c.extract off (off+n)).toList (fun j v hj=>by
  rw[Addr.add_lit,h.cell hm]
  have FH:j<n:=by
   have:=(List.getElem?_eq_some_iff.1 hj).1
   omega
  rw[Array.getElem?_toList,Array.getElem?_extract]at hj
  rw[if_pos (by omega)]at hj
  exact hj)
 rw[hl]at this
 exact this
end Go.Sx
namespace Go.Sx
open Go
abbrev Fr:=Nat→Value
def bc(fr:Fr)(d:Option Nat)(v:Value):Fr:=
 match d with
 |none=>fr
 |some d=>fun s=>cond (Nat.beq s d) v (fr s)
def ev(fr:Fr):Operand→Value
 | .tmp t=>fr t
 | .const v=>v
 | .global g=>.pointer (some ⟨g,0,none⟩)
 | .func f=>.func (.func f) #[] #[]
def cD(n:Nat):Option Nat→Bool
 |none=>true
 |some d=>Nat.blt d n
structure bH(ds:List Deferred)(n:Nat)(a:Act)(fr:Fr):Prop where
 defers:a.defers=ds
 size:a.tmps.size=n
 get:∀s,a.tmps.getD s undef=fr s
theorem bH.eval{ds:List Deferred}{n:Nat}{a:Act}{fr:Fr}(h:bH ds n a fr):a.eval=ev fr:=by
 funext x
 cases x<;>simp only[Act.eval,ev]
 exact h.get _
theorem bH.put{ds:List Deferred}{n:Nat}{a:Act}{fr:Fr}(h:bH ds n a fr){d:Option Nat}(hd:cD n d=true)(v:Value):bH ds n (a.put d v) (bc fr d v):=by
 cases d with
 |none=>exact h
 |some d=>
  have hlt:d<n:=by simpa[cD,Nat.blt_eq]using hd
  refine⟨h.defers,by simp[Act.put,h.size],fun s=>?_⟩
  simp only[Act.put,bc]
  have hs:=h.size
  by_cases e:s=d
  ·subst e;simp[hs,hlt]
  ·have e':d≠s:=fun x=>e x.symm
   have hb:Nat.beq s d=false:=by
    cases hh:Nat.beq s d
    ·rfl
    ·exact absurd (Nat.eq_of_beq_eq_true hh) e
   rw[hb]
   simp only[cond_false]
   have:=h.get s
   simpa[Array.getD_eq_getD_getElem?,Array.getElem?_setIfInBounds_ne e']using this
def bG(P:Program)(g:Gh)(f:FuncId)(args:Array Value)(H:Hp)(R:Ending→Hp→Prop):Prop:=
 ∀w,Own g H w→Calls P f args w fun e w'=>∃H',Own g H' w'∧R e H'
theorem bG.mono{P:Program}{g:Gh}{f:FuncId}{args:Array Value}{H:Hp}{R R':Ending→Hp→Prop}(h:bG P g f args H R)(hr:∀e H',R e H'→R' e H'):
  bG P g f args H R':=fun w hw=>(h w hw).mono fun e w' ⟨H',o,r⟩=>⟨H',o,hr _ _ r⟩
theorem bG.pre{P:Program}{g:Gh}{f:FuncId}{args:Array Value}{H H':Hp}{R:Ending→Hp→Prop}(h:bG P g f args H' R)(he:aR H H'):
  bG P g f args H R:=fun w hw=>h w (he _ _ hw)
theorem bG.post{P:Program}{g:Gh}{f:FuncId}{args:Array Value}{H:Hp}{R R':Ending→Hp→Prop}(h:bG P g f args H R)
 (hr:∀e H',R e H'→∃jQ,aR H' jQ∧R' e jQ):bG P g f args H R':=fun w hw=>(h w hw).mono fun e w' ⟨H',o,r⟩=>
 let ⟨jQ,en,r'⟩:=hr _ _ r;⟨jQ,en _ _ o,r'⟩
def LY(K:Value→Hp→Prop)(KP:List PanicEntry→Hp→Prop):Ending→Hp→Prop
 | .returned v,H=>K v H
 | .panicked ch,H=>KP ch H
 | .outgrown,_=>False
def jj(P:Program)(g:Gh)(K:Value→Hp→Prop)(KP:List PanicEntry→Hp→Prop):Result Next→Prop
 | .ok (.value v) w=>∃H,Own g H w∧K v H
 | .ok .skip w=>∃H,Own g H w∧K undef H
 | .ok (.enter f args) w=>Calls P f args w fun e w'=>∃H,Own g H w'∧LY K KP e H
 | .halt (.panic v) w=>∃H,Own g H w∧KP [{v,recovered:=false}] H
 |_=>False
def jg(P:Program)(g:Gh)(o:Oper)(ρ:Operand→Value)(H:Hp)(K:Value→Hp→Prop)(KP:List PanicEntry→Hp→Prop):Prop:=
 ∀w,Own g H w→jj P g K KP ((execOp ρ o).run P w)
def dh(H:Hp)(o:Obj)(k:Nat→Hp→Prop):Prop:=∀b,b∉H.map Prod.fst→k b ((b,o)::H)
def aq(c a b:Value)(k:Value→Prop):Prop:=∃t,c=.bool t∧k (cond t a b)
def Ld(H:Hp)(p:Value)(k:Value→Prop):Prop:=
 ∃b off c T fz v,p=.pointer (some ⟨b,off,none⟩)∧(b,Obj.cells c T fz)∈H∧c[off]? =some v∧k v
def ay(n:Nat)(H:Hp)(p:Value)(k:Value→Prop):Prop:=
 ∃b off c T fz,p=.pointer (some ⟨b,off,none⟩)∧(b,Obj.cells c T fz)∈H∧off+n≤c.size∧k (.agg (c.extract off (off+n)))
def St(n:Nat)(H:Hp)(p x:Value)(k:Hp→Prop):Prop:=
 ∃b off c T H',p=.pointer (some ⟨b,off,none⟩)∧x.cells.size=n∧off+n≤c.size∧(∀v∈x.cells.toList,v.oneCell'=true)∧
  ct b (.cells c T (0,0)) (.cells (fE c off x.cells.toList) T (0,0)) H H'∧k H'
inductive BK|num|bool|ptr|slice|map|func|str|other
def rQ:TypeDesc→BK
 | .bool=>.bool
 | .int _=>.num
 | .pointer _=>.ptr
 | .slice _=>.slice
 | .map _ _=>.map
 | .func _ _ _=>.func
 | .string=>.str
 |_=>.other
def iy(op:BinOp)(k:IntKind)(a b:Int):Option Value:=
 match op with
 | .add=>some (.int k (k.wrap (a+b)))
 | .sub=>some (.int k (k.wrap (a-b)))
 | .mul=>some (.int k (k.wrap (a*b)))
 | .quo=>if b=0 then none else some (.int k (k.wrap (a.tdiv b)))
 | .rem=>if b=0 then none else some (.int k (a.tmod b))
 | .and=>some (.int k (bits .and k a b))
 | .or=>some (.int k (bits .or k a b))
 | .xor=>some (.int k (bits .xor k a b))
 | .andNot=>some (.int k (bits .andNot k a b))
 | .eql=>some (.bool (a==b))
 | .neq=>some (.bool (a !=b))
 | .lss=>some (.bool (decide (a<b)))
 | .leq=>some (.bool (decide (a≤b)))
 | .gtr=>some (.bool (decide (b<a)))
 | .geq=>some (.bool (decide (b≤a)))
 |_=>none
def eX(kd:BK)(op:BinOp)(x y:Value):Option Value:=
 match x with
 | .int k a=>
  match y with
  | .int k' b=>
   match op with
   | .shl=>if b<0 then none else some (.int k (k.wrap (a*2^(min b.toNat k.bits))))
   | .shr=>if b<0 then none else some (.int k (a.fdiv (2^(min b.toNat k.bits))))
   |op=>if k=k' then iy op k a b else none
  |_=>none
 | .bool a=>
  match kd,op,y with
  | .bool,.eql,.bool b=>some (.bool (a==b))
  | .bool,.neq,.bool b=>some (.bool (!(a==b)))
  |_,_,_=>none
 | .string a=>
  match op,y with
  | .eql,.string b=>some (.bool (a.toList==b.toList))
  | .neq,.string b=>some (.bool (!(a.toList==b.toList)))
  |_,_=>none
 | .pointer a=>
  match kd,op,y with
  | .ptr,.eql,.pointer b=>if a.isNone∨b.isNone then some (.bool (a.isNone&&b.isNone))else none
  | .ptr,.neq,.pointer b=>if a.isNone∨b.isNone then some (.bool (!(a.isNone&&b.isNone)))else none
  |_,_,_=>none
 | .slice a n c=>
  match kd,op,y with
  | .slice,.eql,.slice b _ _=>if a.isNone∨b.isNone then some (.bool (a.isNone&&b.isNone))else none
  | .slice,.neq,.slice b _ _=>if a.isNone∨b.isNone then some (.bool (!(a.isNone&&b.isNone)))else none
  |_,_,_=>none
 | .map a=>
  match kd,op,y with
  | .map,.eql,.map b=>if a.isNone∨b.isNone then some (.bool (a.isNone&&b.isNone))else none
  | .map,.neq,.map b=>if a.isNone∨b.isNone then some (.bool (!(a.isNone&&b.isNone)))else none
  |_,_,_=>none
 |_=>none
def aa(kd:BK)(op:BinOp)(x y:Value)(k:Value→Prop):Prop:=∃v,eX kd op x y=some v∧k v
def Pk(op:UnOp)(x:Value):Option Value:=
 match op,x with
 | .neg,.int k n=>some (.int k (k.wrap (0-n)))
 | .not,.bool b=>some (.bool !b)
 | .xor,.int k n=>some (.int k (bits .xor k (if k.signed then-1 else k.max) n))
 |_,_=>none
def Un(op:UnOp)(x:Value)(k:Value→Prop):Prop:=∃v,Pk op x=some v∧k v
def bB(kd:IntKind)(x:Value)(k:Value→Prop):Prop:=∃j n,x=.int j n∧k (.int kd (kd.wrap n))
def ag(off:Nat)(x:Value)(k:Value→Prop):Prop:=∃b o,x=.pointer (some ⟨b,o,none⟩)∧k (.pointer (some ⟨b,o+off,none⟩))
def A7(off:Nat)(x:Value)(k:Value→Prop):Prop:=∃cs v,x=.agg cs∧cs[off]? =some v∧k v
def Gw(off n:Nat)(x:Value)(k:Value→Prop):Prop:=∃cs,x=.agg cs∧k (.agg (cs.extract off (off+n)))
def ai(size:Nat)(x ix:Value)(k:Value→Prop):Prop:=
 ∃b o n c kd i,x=.slice (some ⟨b,o,none⟩) n c∧ix=.int kd i∧0≤i∧i<(n:Int)∧k (.pointer (some ⟨b,o+i.toNat*size,none⟩))
def ff(len size:Nat)(x ix:Value)(k:Value→Prop):Prop:=
 ∃b o kd i,x=.pointer (some ⟨b,o,none⟩)∧ix=.int kd i∧0≤i∧i<(len:Int)∧k (.pointer (some ⟨b,o+i.toNat*size,none⟩))
def Ff:Option Value→Option Int
 |none=>some 0
 |some (.int _ n)=>some n
 |_=>none
def zR(len:Nat):Option Value→Option Int
 |none=>some len
 |some (.int _ n)=>some n
 |_=>none
def dA(size:Nat)(x:Value)(lo hi:Option Value)(k:Value→Prop):Prop:=
 ∃a n c l h,x=.slice a n c∧Ff lo=some l∧zR n hi=some h∧0≤l∧l≤h∧h≤(c:Int)∧
  k (.slice (if c=l.toNat then a else a.map (·.add (l.toNat*size))) (h.toNat-l.toNat) (c-l.toNat))
def Ext(i:Nat)(x:Value)(k:Value→Prop):Prop:=∃vs v,x=.tuple vs∧vs[i]? =some v∧k v
def aM(x:Value)(k:Value→Prop):Prop:=∃a n c,x=.slice a n c∧k (.int .i64 n)
def rT(H:Hp)(x:Value)(k:Value→Prop):Prop:=
 ∃m,x=.map m∧((m=none∧k (.int .i64 0))∨∃b es clock,m=some b∧(b,Obj.map es clock)∈H∧k (.int .i64 es.size))
def Cells(H:Hp)(base:Option Addr)(n:Nat)(cs:Array Value):Prop:=
 match base with
 |none=>cs=#[]
 |some a=>(n=0∧cs=#[])∨(a.spot=none∧∃c T fz,(a.block,Obj.cells c T fz)∈H∧a.off+n≤c.size∧cs=c.extract a.off (a.off+n))
def App(P:Program)(elem size bytes:Nat)(zero:Value)(H:Hp)(s x:Value)(k:Value→Hp→Prop):Prop:=
 ∃base n cap xb m xc olds news,s=.slice base n cap∧x=.slice xb m xc∧Cells H base (n*size) olds∧Cells H xb (m*size) news∧
  news.size=m*size∧olds.size=n*size∧(∀v∈news.toList,v.oneCell'=true)∧
  (n+m≤cap→match base with
   |none=>k (.slice none (n+m) cap) H
   |some a=>∃c T H',a.spot=none∧a.off+n*size+m*size≤c.size∧ct a.block (.cells c T (0,0)) (.cells (fE c (a.off+n*size) news.toList) T (0,0)) H H'∧k (.slice (some a) (n+m) cap) H')∧
  (cap<n+m→(n+m)*bytes≤140737488355328∧(n+m:Nat)≤9223372036854775807∧∀dy,n+m≤dy→
   dh H (.cells (olds++news++Builtin.zeroCells zero.cells (dy-(n+m))) elem (0,0)) fun b H'=>∃jQ,aR H' jQ∧k (.slice (some ⟨b,0,none⟩) (n+m) dy) jQ)
def eJ(elem size bytes:Nat)(zero:Value)(H:Hp)(l c:Value)(k:Value→Hp→Prop):Prop:=
 ∃kl kc ln cn,l=.int kl (ln:Nat)∧c=.int kc (cn:Nat)∧ln≤cn∧(cn:Int)≤9223372036854775807∧cn*bytes≤281474976710656∧
  dh H (.cells (madeCells zero.cells (cn*size)) elem (0,0)) fun b H'=>k (.slice (some ⟨b,0,none⟩) ln cn) H'
def j4(H:Hp)(k:Value→Hp→Prop):Prop:=dh H (.map #[] 0) fun b H'=>k (.map (some b)) H'
def yY(H:Hp)(m:Value)(es:Array MapEntry):Prop:=(m=.map none∧es=#[])∨∃b clock,m=.map (some b)∧(b,Obj.map es clock)∈H
def dW(kd:TypeDesc)(zero:Value)(ok:Bool)(H:Hp)(m key:Value)(k:Value→Prop):Prop:=
 ∃es r,yY H m es∧Instr.findNow kd key es.toList 0=some r∧
  k (match r with
   |some (_,v)=>cond ok (.tuple #[v,.bool true]) v
   |none=>cond ok (.tuple #[zero,.bool false]) zero)
def aY(kd:TypeDesc)(H:Hp)(m key val:Value)(k:Hp→Prop):Prop:=
 ∃b es clock r,m=.map (some b)∧Instr.findNow kd key es.toList 0=some r∧
  match r with
  |some (i,_)=>(∀e,es[i]? =some e→Instr.sameBits 10000 e.key key=true)∧i<es.size∧∃H',ct b (.map es clock) (.map (es.modify i fun e=>{e with key,val}) clock) H H'∧k H'
  |none=>∃H',ct b (.map es clock) (.map (es.push {key,val,born:=clock}) (clock+1)) H H'∧k H'
def kH(kd:TypeDesc)(H:Hp)(m key:Value)(k:Hp→Prop):Prop:=
 (m=.map none∧k H)∨∃b es clock r,m=.map (some b)∧Instr.findNow kd key es.toList 0=some r∧
  match r with
  |some (i,_)=>∃H',ct b (.map es clock) (.map (es.eraseIdxIfInBounds i) clock) H H'∧k H'
  |none=>(b,Obj.map es clock)∈H∧k H
def aS(P:Program)(f:FuncId):Bool:=
 match P.funcs[f]? with
 |none=>false
 |some fn=> !(fn.name== "runtime.NumGoroutine") &&fn.body.isSome
def ae(P:Program)(g:Gh)(f:FuncId)(args:Array Value)(H:Hp)(K:Value→Hp→Prop)(KP:List PanicEntry→Hp→Prop):Prop:=
 bG P g f args H (LY K KP)
def bg(P:Program)(g:Gh)(fv:Value)(args:Array Value)(H:Hp)(K:Value→Hp→Prop)(KP:List PanicEntry→Hp→Prop):Prop:=
 ∃f first captured,fv=.func (.func f) first captured∧aS P f=true∧ae P g f (first++args++captured) H K KP
def xQ(P:Program)(kt:TypeId)(x y:Value)(b:Bool):Prop:=∀w,(Op.equal kt x y).run P w=.ok b w
def jR(P:Program)(kt:TypeId)(x:Value):Prop:=∀e w,(Instr.checkKey e 10000 kt x).run P w=.ok () w
def ir(P:Program)(kt:TypeId)(key:Value):List MapEntry→Nat→Option (Nat×Value)→Prop
 | [],_,r=>r=none
 |e::es,i,r=>∃b,xQ P kt key e.key b∧(b=true→r=some (i,e.val))∧(b=false→ir P kt key es (i+1) r)
def gG(P:Program)(kt:TypeId)(zero:Value)(ok:Bool)(H:Hp)(m key:Value)(k:Value→Prop):Prop:=
 ∃es r,yY H m es∧jR P kt key∧ir P kt key es.toList 0 r∧
  k (match r with
   |some (_,v)=>cond ok (.tuple #[v,.bool true]) v
   |none=>cond ok (.tuple #[zero,.bool false]) zero)
def ig(P:Program)(kt:TypeId)(H:Hp)(m key val:Value)(k:Hp→Prop):Prop:=
 ∃b es clock r,m=.map (some b)∧jR P kt key∧ir P kt key es.toList 0 r∧
  match r with
  |some (i,_)=>(∀e,es[i]? =some e→Instr.sameBits 10000 e.key key=true)∧i<es.size∧∃H',ct b (.map es clock) (.map (es.modify i fun e=>{e with key,val}) clock) H H'∧k H'
  |none=>∃H',ct b (.map es clock) (.map (es.push {key,val,born:=clock}) (clock+1)) H H'∧k H'
def l9(P:Program)(kt:TypeId)(H:Hp)(m key:Value)(k:Hp→Prop):Prop:=
 jR P kt key∧((m=.map none∧k H)∨∃b es clock r,m=.map (some b)∧ir P kt key es.toList 0 r∧
  match r with
  |some (i,_)=>∃H',ct b (.map es clock) (.map (es.eraseIdxIfInBounds i) clock) H H'∧k H'
  |none=>(b,Obj.map es clock)∈H∧k H)
def MM(H:Hp)(x:Value)(k:Value→Hp→Prop):Prop:=
 (x=.map none∧dh H (.mapIter none 0 #[] 0) fun b H'=>k (.pointer (some ⟨b,0,none⟩)) H')∨
 ∃m es clock,x=.map (some m)∧(m,Obj.map es clock)∈H∧dh H (.mapIter (some m) clock #[] clock) fun b H'=>k (.pointer (some ⟨b,0,none⟩)) H'
def LR(H:Hp)(it:Value)(k:Value→Hp→Prop):Prop:=
 ∃b mo since seen last,it=.pointer (some ⟨b,0,none⟩)∧(b,Obj.mapIter mo since seen last)∈H∧
  match mo with
  |none=>k (.tuple #[.bool false]) H
  |some m=>∃es clock,(m,Obj.map es clock)∈H∧(∀e∈es.toList,e.born<since∧e.born<last)∧
   (∀e∈es.toList,e.born∉seen→∃H',ct b (.mapIter (some m) since seen last) (.mapIter (some m) since (seen.push e.born) clock) H H'∧k (.tuple #[.bool true,e.key,e.val]) H')∧
   ((∀e∈es.toList,e.born∈seen)→k (.tuple #[.bool false]) H)
def Gy(H:Hp)(it:Value)(k:Value→Prop):Prop:=
 ∃b m since seen stamp clock es e,it=.pointer (some ⟨b,0,none⟩)∧(b,Obj.mapIter (some m) since seen clock)∈H∧seen.back?=some stamp∧(m,Obj.map es clock)∈H∧es.find? (·.born==stamp)=some e∧k (.tuple #[e.key,e.val])
def O5(x y:Value)(k:Value→Prop):Prop:=∃kd a b,x=.int kd a∧y=.int kd b∧k (.int kd (if b>a then b else a))
def LV(x y:Value)(k:Value→Prop):Prop:=∃kd a b,x=.int kd a∧y=.int kd b∧k (.int kd (if b<a then b else a))
def mL(H:Hp)(x:Value)(k:Value→Prop):Prop:=
 ∃base n c,∃bs:List UInt8,x=.slice base n c∧Cells H base n ((bs.map fun b=>Value.int .u8 b.toNat).toArray)∧bs.length=n∧k (.string ⟨bs.toArray⟩)
def Hu(x i:Value)(k:Value→Prop):Prop:=∃s kd j b,x=.string s∧i=.int kd j∧0≤j∧s[j.toNat]? =some b∧k (.int .u8 b.toNat)
def I9(x:Value)(k:Value→Prop):Prop:=∃s,x=.string s∧k (.int .i64 s.size)
def plainKey:TypeDesc→Bool
 | .int _| .string| .bool=>true
 |_=>false
def bM:TypeDesc→Bool
 | .struct _| .array _ _=>true
 |_=>false
end Go.Sx
namespace Go.Sx
open Go
section
variable {P:Program} {g:Gh} {H:Hp} {K:Value→Hp→Prop} {KP:List PanicEntry→Hp→Prop}
theorem cQ{t:TypeId}{i:TypeInfo}{z:Value}(hi:P.info? t=some i)(hz:i.zero=some z)(w:World):(zeroValue t).run P w=.ok z w:=by
 simp[zeroValue,typeInfo,hi,hz]
theorem jr{t:TypeId}{d:TypeDesc}(hd:P.underlying t=some d)(w:World):(isAgg t).run P w=.ok (bM d) w:=by
 simp only[isAgg,Sem.run_bind,run_underlying hd,Result.andThen_ok]
 cases d<;>rfl
theorem run_sizeOf{t:TypeId}{i:TypeInfo}(hi:P.info? t=some i)(w:World):(sizeOf t).run P w=.ok i.size w:=by
 simp[sizeOf,typeInfo,hi]
theorem Ld.run{p:Value}{k:Value→Prop}(h:Ld H p k){w:World}(hw:Own g H w){t:TypeId}{d:TypeDesc}(hd:P.underlying t=some d)(ha:bM d=false):
  ∃v,(Instr.loadAt t p).run P w=.ok v w∧k v:=by
 obtain⟨b,off,c,T,fz,v,rfl,hm,hc,hk⟩:=h
 refine⟨v,?_,hk⟩
 have:=hw.cell hm off
 rw[hc]at this
 simp only[Instr.loadAt,Instr.sureAddr,loadVar,Sem.run_bind,Sem.run_pure,Result.andThen_ok,jr hd,ha,Sem.run_ite,Bool.false_eq_true,if_false,run_load,this]
theorem ay.run{n:Nat}{p:Value}{k:Value→Prop}(h:ay n H p k){w:World}(hw:Own g H w){t:TypeId}{d:TypeDesc}(hd:P.underlying t=some d)(ha:bM d=true)
 {i:TypeInfo}(hi:P.info? t=some i)(hn:i.size=n):
  ∃v,(Instr.loadAt t p).run P w=.ok v w∧k v:=by
 obtain⟨b,off,c,T,fz,rfl,hm,hs,hk⟩:=h
 refine⟨_,?_,hk⟩
 simp only[Instr.loadAt,Instr.sureAddr,loadVar,Sem.run_bind,Sem.run_pure,Result.andThen_ok,jr hd,ha,Sem.run_ite,if_true,run_sizeOf hi,hn,fX hw hm off n hs]
theorem St.run{n:Nat}{p x:Value}{k:Hp→Prop}(h:St n H p x k){w:World}(hw:Own g H w){t:TypeId}{i:TypeInfo}(hi:P.info? t=some i)(hn:i.size=n):
  ∃w' H',(Instr.storeAt t p x).run P w=.ok () w'∧Own g H' w'∧k H':=by
 obtain⟨b,off,c,T,H',rfl,hx,hs,hv,hu,hk⟩:=h
 obtain⟨w',hr,ho⟩:=dw (P:=P) off x.cells.toList 0 c H H' w hw (by simpa using hu) hv (by simp;omega)
 refine⟨w',H',?_,ho,hk⟩
 simp only[Instr.storeAt,Instr.sureAddr,storeVar,Sem.run_bind,Sem.run_pure,Result.andThen_ok,run_sizeOf hi,hn,hx,ne_eq,not_true,if_false,hr]
theorem B7{op:BinOp}{k:IntKind}{a b:Int}{v:Value}{t:TypeId}(h:iy op k a b=some v)(w:World)(hs:op≠.shl∧op≠.shr):
  (binOp op t (.int k a) (.int k b)).run P w=.ok v w:=by
 cases op<;>simp[iy]at h hs<;>try subst h
 case quo=> 
  obtain⟨h0,rfl⟩:=h
  simp[binOp,Op.intDiv,h0]
 case rem=>
  obtain⟨h0,rfl⟩:=h
  simp[binOp,Op.intDiv,h0]
 all_goals first
  |simp[binOp,Op.intArith];done
  |simp[binOp,Op.intCmp];done
  |(simp only[binOp_and,binOp_or,binOp_xor,binOp_andNot,intBits_and,intBits_or,intBits_xor,intBits_andNot];rfl)
theorem fj{t:TypeId}{x y:Value}{r:Result Bool}{w:World}(h:∀d,(Op.equalIn (d+1) t x y).run P w=r):(Op.equal t x y).run P w=r:=h 9999
theorem run_eql_bool{t:TypeId}(hd:P.underlying t=some .bool)(a b:Bool)(w:World):(Op.equal t (.bool a) (.bool b)).run P w=.ok (a==b) w:=
 fj fun d=>by simp[Op.equalIn,run_underlying hd]
theorem sr{t e:TypeId}(hd:P.underlying t=some (.pointer e))(a b:Option Addr)(hab:a.isNone∨b.isNone)(w:World):(Op.equal t (.pointer a) (.pointer b)).run P w=.ok (a.isNone&&b.isNone) w:=
 fj fun d=>by cases a<;>cases b<;>simp at hab<;>simp[Op.equalIn,run_underlying hd]
theorem pC{t e:TypeId}(hd:P.underlying t=some (.slice e))(a b:Option Addr)(n c n' c':Nat)(hab:a.isNone∨b.isNone)(w:World):(Op.equal t (.slice a n c) (.slice b n' c')).run P w=.ok (a.isNone&&b.isNone) w:=
 fj fun d=>by cases a<;>cases b<;>simp at hab<;>simp[Op.equalIn,run_underlying hd]
theorem su{t e f:TypeId}(hd:P.underlying t=some (.map e f))(a b:Option Nat)(hab:a.isNone∨b.isNone)(w:World):(Op.equal t (.map a) (.map b)).run P w=.ok (a.isNone&&b.isNone) w:=
 fj fun d=>by cases a<;>cases b<;>simp at hab<;>simp[Op.equalIn,run_underlying hd]
theorem DJ{kd:BK}{op:BinOp}{x y v:Value}{t:TypeId}{d:TypeDesc}(hd:P.underlying t=some d)(hk:rQ d=kd)(h:eX kd op x y=some v)(w:World):
  (binOp op t x y).run P w=.ok v w:=by
 cases x<;>simp only[eX]at h<;>try (simp at h;done)
 case int k a=>
  cases y<;>simp only at h<;>try (simp at h;done)
  rename_i k' b
  by_cases hs:op=.shl
  ·subst hs
   simp only at h
   split at h
   ·simp at h
   ·simp only[Option.some.injEq]at h;subst h;rename_i hb;simp[binOp,Op.shift,hb]
  by_cases hs':op=.shr
  ·subst hs'
   simp only at h
   split at h
   ·simp at h
   ·simp only[Option.some.injEq]at h;subst h;rename_i hb;simp[binOp,Op.shift,hb]
  have h2:(if k=k' then iy op k a b else none)=some v:=by
   cases op<;>first|exact h|exact absurd rfl hs|exact absurd rfl hs'
  split at h2
  ·rename_i e;subst e;exact B7 h2 w ⟨hs,hs'⟩
  ·simp at h2
 case bool a=>
  split at h<;>simp only[Option.some.injEq,reduceCtorEq]at h
  all_goals
   subst h
   have:d=.bool:=by cases d<;>simp_all[rQ]
   subst this
   simp[binOp,run_eql_bool hd]
 case string a=>
  split at h<;>simp only[Option.some.injEq,reduceCtorEq]at h
  all_goals
   subst h
   first|rfl|(simp only[binOp,Op.stringOp];rfl)
 case pointer a=>
  split at h<;>try (simp at h;done)
  all_goals
   have:∃e,d=.pointer e:=by cases d<;>simp_all[rQ]
   obtain⟨e,rfl⟩:=this
   split at h<;>simp only[Option.some.injEq,reduceCtorEq]at h
   subst h
   rename_i bb hab
   simp[binOp,sr hd _ _ hab]
 case slice a n c=>
  split at h<;>try (simp at h;done)
  all_goals
   have:∃e,d=.slice e:=by cases d<;>simp_all[rQ]
   obtain⟨e,rfl⟩:=this
   split at h<;>simp only[Option.some.injEq,reduceCtorEq]at h
   subst h
   rename_i bb _ _ hab
   simp[binOp,pC hd _ _ _ _ _ _ hab]
 case map a=>
  split at h<;>try (simp at h;done)
  all_goals
   have:∃e f,d=.map e f:=by cases d<;>simp_all[rQ]
   obtain⟨e,f,rfl⟩:=this
   split at h<;>simp only[Option.some.injEq,reduceCtorEq]at h
   subst h
   rename_i bb hab
   simp[binOp,su hd _ _ hab]
theorem u4{kd:BK}{op:BinOp}{x y v:Value}{t:TypeId}{ox oy:Operand}(h:eX kd op x y=some v):eqGuard op t ox oy x y=pure ():=by
 cases x<;>simp[eX]at h<;>cases op<;>rfl
theorem aa.run{kd:BK}{op:BinOp}{x y:Value}{k:Value→Prop}(h:aa kd op x y k)(w:World){t:TypeId}{d:TypeDesc}{ox oy:Operand}(hd:P.underlying t=some d)(hk:rQ d=kd):
  ∃v,(do eqGuard op t ox oy x y;binOp op t x y:Sem Value).run P w=.ok v w∧k v:=by
 obtain⟨v,hv,hkv⟩:=h
 refine⟨v,?_,hkv⟩
 rw[Sem.run_bind,u4 hv]
 simp only[Sem.run_pure,Result.andThen_ok]
 exact DJ hd hk hv w
theorem Un.run{op:UnOp}{x:Value}{k:Value→Prop}(h:Un op x k)(w:World):∃v,(Op.unary op x).run P w=.ok v w∧k v:=by
 obtain⟨v,hv,hk⟩:=h
 refine⟨v,?_,hk⟩
 cases op<;>cases x<;>simp[Pk]at hv<;>subst hv
 all_goals first|(simp[Op.unary,Op.intArith];done)|rfl
theorem bB.run{kd:IntKind}{x:Value}{k:Value→Prop}(h:bB kd x k)(w:World){src dst:TypeId}{ds dd:TypeDesc}(hs:P.underlying src=some ds)(hd:P.underlying dst=some dd)(hk:dd=.int kd):
  ∃v,(convert src dst x).run P w=.ok v w∧k v:=by
 obtain⟨j,n,rfl,hkv⟩:=h
 subst hk
 refine⟨_,?_,hkv⟩
 simp only[convert,Sem.run_bind,run_underlying hs,run_underlying hd,Result.andThen_ok]
 cases ds<;>rfl
theorem ag.run{off:Nat}{x:Value}{k:Value→Prop}(h:ag off x k)(w:World){s:TypeId}{fs:Array Field}{f:Nat}{fl:Field}{i:TypeInfo}(hs:P.underlying s=some (.struct fs))(hf:fs[f]? =some fl)
 (hi:P.info? fl.type=some i)(h0:i.size≠0)(ho:fl.offset=off):∃v,(Instr.fieldAt s x f).run P w=.ok v w∧k v:=by
 obtain⟨b,o,rfl,hk⟩:=h
 refine⟨_,?_,hk⟩
 subst ho
 simp[Instr.fieldAt,run_underlying hs,hf,Instr.sureAddr,fieldPlace,run_sizeOf hi,h0,Addr.add_lit]
theorem A7.run{off:Nat}{x:Value}{k:Value→Prop}(h:A7 off x k)(w:World){s:TypeId}{fs:Array Field}{f:Nat}{fl:Field}{d:TypeDesc}(hs:P.underlying s=some (.struct fs))(hf:fs[f]? =some fl)
 (hd:P.underlying fl.type=some d)(ha:bM d=false)(ho:fl.offset=off):∃v,(Instr.field s x f).run P w=.ok v w∧k v:=by
 obtain⟨cs,v,rfl,hc,hk⟩:=h
 refine⟨v,?_,hk⟩
 subst ho
 simp[Instr.field,run_underlying hs,hf,asAgg,part,jr hd,ha,hc]
theorem Gw.run{off n:Nat}{x:Value}{k:Value→Prop}(h:Gw off n x k)(w:World){s:TypeId}{fs:Array Field}{f:Nat}{fl:Field}{d:TypeDesc}{i:TypeInfo}(hs:P.underlying s=some (.struct fs))(hf:fs[f]? =some fl)
 (hd:P.underlying fl.type=some d)(ha:bM d=true)(hi:P.info? fl.type=some i)(hn:i.size=n)(ho:fl.offset=off):∃v,(Instr.field s x f).run P w=.ok v w∧k v:=by
 obtain⟨cs,rfl,hk⟩:=h
 refine⟨_,?_,hk⟩
 subst ho;subst hn
 simp[Instr.field,run_underlying hs,hf,asAgg,part,jr hd,ha,run_sizeOf hi]
theorem ai.run{size:Nat}{x ix:Value}{k:Value→Prop}(h:ai size x ix k)(w:World){t e:TypeId}{i:TypeInfo}(ht:P.underlying t=some (.slice e))(hi:P.info? e=some i)(hn:i.size=size):
  ∃v,(Instr.indexAt t x ix).run P w=.ok v w∧k v:=by
 obtain⟨b,o,n,c,kd,j,rfl,rfl,h0,h1,hk⟩:=h
 refine⟨_,?_,hk⟩
 subst hn
 simp[Instr.indexAt,run_underlying ht,asIntOf,h0,h1,run_sizeOf hi,Addr.add_lit]
theorem ff.run{len size:Nat}{x ix:Value}{k:Value→Prop}(h:ff len size x ix k)(w:World){t e:TypeId}{i:TypeInfo}(ht:P.underlying t=some (.array len e))(hi:P.info? e=some i)(hn:i.size=size):
  ∃v,(Instr.indexAt t x ix).run P w=.ok v w∧k v:=by
 obtain⟨b,o,kd,j,rfl,rfl,h0,h1,hk⟩:=h
 refine⟨_,?_,hk⟩
 subst hn
 simp[Instr.indexAt,run_underlying ht,asIntOf,h0,h1,run_sizeOf hi,Addr.add_lit,Instr.sureAddr]
theorem dA.run{size:Nat}{x:Value}{lo hi:Option Value}{k:Value→Prop}(h:dA size x lo hi k)(w:World){t e:TypeId}{i:TypeInfo}(ht:P.underlying t=some (.slice e))(hi':P.info? e=some i)(hn:i.size=size):
  ∃v,(Instr.sliceAt t x lo hi none).run P w=.ok v w∧k v:=by
 obtain⟨a,n,c,l,hh,rfl,hl,kP,h0,h1,h2,hk⟩:=h
 refine⟨_,?_,hk⟩
 subst hn
 have bl:∀(kk:IntKind) (z:Int) (y:Nat) (cd:BoundsCode),0≤z→z≤y→(Instr.sliceBound (.int kk z) y cd).run P w=.ok z.toNat w:=by
  intro kk z y cd a1 a2
  simp[Instr.sliceBound,asIntOf,a1,a2]
 have fo:∀(m l:Nat),(if m=l then a else a.map (·.add (l*i.size)))=(if m=l then a else a.map fun x=>x.add (l*i.size)):=fun _ _=>rfl
 have e1:l≤((hh.toNat:Nat):Int):=by omega
 cases lo with
 |none=>
  simp only[Ff,Option.some.injEq]at hl
  subst hl
  cases hi with
  |none=>
   simp only[zR,Option.some.injEq]at kP
   subst kP
   simp[Instr.sliceAt,run_underlying ht,Instr.slice,Instr.sliceBounds,run_sizeOf hi']
  |some v=>
   cases v<;>simp only[zR,reduceCtorEq,Option.some.injEq]at kP
   subst kP
   simp[Instr.sliceAt,run_underlying ht,Instr.slice,Instr.sliceBounds,run_sizeOf hi',bl _ _ c .sliceAcap (by omega) h2]
 |some vl=>
  cases vl<;>simp only[Ff,reduceCtorEq,Option.some.injEq]at hl
  subst hl
  cases hi with
  |none=>
   simp only[zR,Option.some.injEq]at kP
   subst kP
   have:=bl ‹_› _ n .sliceB h0 h1
   simp[Instr.sliceAt,run_underlying ht,Instr.slice,Instr.sliceBounds,run_sizeOf hi',this]
  |some v=>
   cases v<;>simp only[zR,reduceCtorEq,Option.some.injEq]at kP
   subst kP
   rename_i k1 n1 k2 n2
   have b1:=bl k2 n2 c .sliceAcap (by omega) h2
   have b2:=bl k1 n1 n2.toNat .sliceB h0 (by omega)
   simp[Instr.sliceAt,run_underlying ht,Instr.slice,Instr.sliceBounds,run_sizeOf hi',b1,b2]
theorem Ext.run{i:Nat}{x:Value}{k:Value→Prop}(h:Ext i x k)(w:World):∃v,(Instr.extract x i).run P w=.ok v w∧k v:=by
 obtain⟨vs,v,rfl,hv,hk⟩:=h
 exact⟨v,by simp[Instr.extract,hv],hk⟩
theorem aM.run{x:Value}{k:Value→Prop}(h:aM x k)(w:World){t e ty:TypeId}(ht:P.underlying t=some (.slice e)):∃v,(Builtin.len_ #[t] ty #[x]).run P w=.ok v w∧k v:=by
 obtain⟨a,n,c,rfl,hk⟩:=h
 exact⟨_,by simp[Builtin.len_,run_underlying ht,goInt],hk⟩
theorem aG{w:World}(hw:Own g H w){b:Nat}{es:Array MapEntry}{clock:Nat}(hm:(b,Obj.map es clock)∈H):(getObj b).run P w=.ok (.map es clock) w:=by
 have:=hw.has _ hm
 simp only at this
 simp[getObj,Sem.run,this]
theorem rT.run{x:Value}{k:Value→Prop}(h:rT H x k){w:World}(hw:Own g H w){t e e' ty:TypeId}(ht:P.underlying t=some (.map e e')):∃v,(Builtin.len_ #[t] ty #[x]).run P w=.ok v w∧k v:=by
 obtain⟨m,rfl,⟨rfl,hk⟩|⟨b,es,clock,rfl,hm,hk⟩⟩:=h
 ·exact⟨_,by simp[Builtin.len_,run_underlying ht,goInt],hk⟩
 ·exact⟨_,by simp[Builtin.len_,run_underlying ht,goInt,aG hw hm],hk⟩
end
end Go.Sx
namespace Go.Sx
open Go
section
variable {P:Program} {g:Gh} {H:Hp} {K:Value→Hp→Prop} {KP:List PanicEntry→Hp→Prop}
theorem Cells.run{w:World}(hw:Own g H w){base:Option Addr}{size n cap:Nat}{cs:Array Value}(h:Cells H base (n*size) cs):
  (Builtin.firstCells size n (.slice base n cap)).run P w=.ok cs w:=by
 cases base with
 |none=>simp only[Cells]at h;subst h;simp[Builtin.firstCells]
 |some a=>
  rcases h with⟨hn,rfl⟩|⟨h0,c,T,fz,hm,hs,rfl⟩
  ·simp only[Builtin.firstCells,hn];rfl
  obtain⟨b,o,sp⟩:=a
  simp only at h0 hm hs;subst h0
  simp only[Builtin.firstCells,fX hw hm _ _ hs]
theorem App.run{elem size bytes:Nat}{zero:Value}{s x:Value}{k:Value→Hp→Prop}(h:App P elem size bytes zero H s x k){w:World}(hw:Own g H w){t t' ty:TypeId}{i:TypeInfo}
 (ht:P.underlying t=some (.slice elem))(ht':∃e,P.underlying t'=some (.slice e))(hi:P.info? elem=some i)(hz:i.zero=some zero)(hn:i.size=size)(hb:i.bytes=bytes):
  ∃v w' H',(Builtin.append_ #[t,t'] ty #[s,x]).run P w=.ok v w'∧Own g H' w'∧k v H':=by
 obtain⟨base,n,cap,xb,m,xc,olds,news,rfl,rfl,RM,KR,Me,Tz,hone,hfit,hgrow⟩:=h
 obtain⟨e',ht'⟩:=ht'
 subst hn;subst hb
 by_cases hc:n+m≤cap
 ·have hk:=hfit hc
  have hnew:=Cells.run (P:=P) (cap:=xc) hw KR
  cases base with
  |none=>
   refine⟨_,w,H,?_,hw,hk⟩
   simp[Builtin.append_,run_underlying ht,run_underlying ht',run_sizeOf hi,Builtin.lenOf,hc,hnew]
  |some a=>
   obtain⟨c,T,H',h0,hs,hu,hk⟩:=hk
   obtain⟨b,o,sp⟩:=a
   simp only at h0 hu hs;subst h0
   obtain⟨w',hr,ho⟩:=dw (P:=P) (o+n*i.size) news.toList 0 c H H' w hw (by simpa using hu) hone (by simp;omega)
   refine⟨_,w',H',?_,ho,hk⟩
   simp[Builtin.append_,run_underlying ht,run_underlying ht',run_sizeOf hi,Builtin.lenOf,hc,hnew,Addr.add_lit,hr]
 ·obtain⟨Om,h63,hk⟩:=hgrow (by omega)
  have kO:=hw.drew
  have hnew:=Cells.run (P:=P) (cap:=xc) kO KR
  have hold:=Cells.run (P:=P) (cap:=cap) kO RM
  have zO:Builtin.nextslicecap (n+m) cap*i.bytes≤281474976710656:=growslice_fits (by omega) Om
  have OO:¬(281474976710656<Builtin.nextslicecap (n+m) cap*i.bytes):=by omega
  have ON:¬(9223372036854775807<((n:Int)+(m:Int))):=by omega
  obtain⟨jQ,mE,hkk⟩:=hk (grownCap w (n+m) cap elem) (by simp only[grownCap,Question.cut];omega) _ kO.fresh
  refine⟨_,_,_,?_,mE _ _ (kO.alloc _),hkk⟩
  ·simp[Builtin.append_,run_underlying ht,run_underlying ht',sizeOf,typeInfo,zeroValue,hi,hz,Builtin.lenOf,hc,ON,OO,Question.forced,hnew,hold,newRow,grownCap]
theorem eJ.run{elem size bytes:Nat}{zero:Value}{l c:Value}{k:Value→Hp→Prop}(h:eJ elem size bytes zero H l c k){w:World}(hw:Own g H w){t:TypeId}{i:TypeInfo}
 (ht:P.underlying t=some (.slice elem))(hi:P.info? elem=some i)(hz:i.zero=some zero)(hn:i.size=size)(hb:i.bytes=bytes):
  ∃v w' H',(Instr.makeSlice t l c).run P w=.ok v w'∧Own g H' w'∧k v H':=by
 obtain⟨kl,kc,ln,cn,rfl,rfl,hlc,cc,hby,hk⟩:=h
 subst hn;subst hb
 refine⟨_,_,_,?_,hw.alloc _,hk _ hw.fresh⟩
 have e1:IntKind.i64.wrap (ln:Int)=ln:=IntWalk.i64_in _ (by omega)
 have e2:IntKind.i64.wrap (cn:Int)=cn:=IntWalk.i64_in _ (by omega)
 have e3:¬((i.bytes:Int)*(cn:Int)>281474976710656):=by
  have:((cn*i.bytes:Nat):Int)≤281474976710656:=by omega
  rw[Int.mul_comm];push_cast at this;omega
 have e4:¬((cn:Int)<ln):=by omega
 by_cases h0:cn*i.size=0
 ·simp[Instr.makeSlice,run_underlying ht,asInt,asIntOf,typeInfo,hi,e1,e2,e3,e4,sizeOf,zeroValue,hz,newRow,madeCells,h0,show¬((cn:Int)<0)from by omega,show¬((ln:Int)<0)from by omega]
  have:Array.range 0=#[]:=rfl
  simp[this]
 ·simp[Instr.makeSlice,run_underlying ht,asInt,asIntOf,typeInfo,hi,e1,e2,e3,e4,sizeOf,zeroValue,hz,newRow,madeCells,h0,show¬((cn:Int)<0)from by omega,show¬((ln:Int)<0)from by omega]
theorem yY.run{m:Value}{es:Array MapEntry}(h:yY H m es){w:World}(hw:Own g H w):
  (m=.map none∧es=#[])∨∃b clock,m=.map (some b)∧(getObj b).run P w=.ok (.map es clock) w:=by
 rcases h with h|⟨b,clock,hm,hb⟩
 ·exact .inl h
 ·exact .inr ⟨b,clock,hm,aG hw hb⟩
theorem run_checkKey(e:Bool){t:TypeId}{d:TypeDesc}(hd:P.underlying t=some d)(hp:plainKey d=true)(v:Value)(w:World):(Instr.checkKey e 10000 t v).run P w=.ok () w:=by
 have:∀n,(Instr.checkKey e (n+1) t v).run P w=.ok () w:=fun n=>by
  simp only[Instr.checkKey,Sem.run_bind,run_underlying hd,Result.andThen_ok]
  cases d<;>first|(simp[plainKey]at hp;done)|rfl
 exact this 9999
theorem run_findKey{t:TypeId}{d:TypeDesc}(hd:P.underlying t=some d){key:Value}{es:List MapEntry}{r:Option (Nat×Value)}(h:Instr.findNow d key es 0=some r)(w:World):
  (Instr.findKey t key es).run P w=.ok r w:=by
 simp[Instr.findKey,run_underlying hd,h]
theorem dW.run{kd:TypeDesc}{zero:Value}{ok:Bool}{m key:Value}{k:Value→Prop}(h:dW kd zero ok H m key k){w:World}(hw:Own g H w){t kt e:TypeId}{i:TypeInfo}
 (ht:P.underlying t=some (.map kt e))(hk:P.underlying kt=some kd)(hp:plainKey kd=true)(hi:P.info? e=some i)(hz:i.zero=some zero):
  ∃v,(Instr.lookup t m key ok).run P w=.ok v w∧k v:=by
 obtain⟨es,r,hm,hf,hkv⟩:=h
 have cX:=fun b=>run_checkKey (P:=P) b hk hp key w
 have m5:=run_findKey (P:=P) hk hf w
 refine⟨_,?_,hkv⟩
 rcases hm.run (P:=P) hw with⟨rfl,rfl⟩|⟨b,clock,rfl,hg⟩
 ·cases r with
  |none=>cases ok<;>simp[Instr.lookup,run_underlying ht,cX,m5,cQ hi hz]
  |some x=>obtain⟨j,v⟩:=x;cases ok<;>simp[Instr.lookup,run_underlying ht,cX,m5]
 ·cases r with
  |none=>cases ok<;>simp[Instr.lookup,run_underlying ht,cX,m5,cQ hi hz,hg]
  |some x=>obtain⟨j,v⟩:=x;cases ok<;>simp[Instr.lookup,run_underlying ht,cX,m5,hg]
theorem bj{w:World}(hw:Own g H w){b:Nat}{es:Array MapEntry}{clock:Nat}(es':Array MapEntry)(clock':Nat){H':Hp}(hu:ct b (.map es clock) (.map es' clock') H H'):
  ∃w',(setObj b (.map es' clock')).run P w=.ok () w'∧Own g H' w':=by
 have hm:=hw.has _ hu.mem
 simp only at hm
 refine⟨{w with heap:=w.heap.setIfInBounds b (.map es' clock')},by simp[setObj,Sem.run,hm],?_⟩
 have hlt:=hw.lt hu.mem
 refine hw.bc hu rfl rfl rfl ?_ ?_
 ·simp only at hlt;simp[hlt]
 ·intro c hc;rw[Array.getElem?_setIfInBounds,if_neg (fun e=>hc (Eq.symm e))]
theorem aY.run{kd:TypeDesc}{m key val:Value}{k:Hp→Prop}(h:aY kd H m key val k){w:World}(hw:Own g H w){t kt e:TypeId}
 (ht:P.underlying t=some (.map kt e))(hk:P.underlying kt=some kd)(hp:plainKey kd=true):
  ∃w' H',(Instr.mapUpdate t m key val).run P w=.ok () w'∧Own g H' w'∧k H':=by
 obtain⟨b,es,clock,r,rfl,hf,hr⟩:=h
 have cX:=fun b=>run_checkKey (P:=P) b hk hp key w
 have m5:=run_findKey (P:=P) hk hf w
 cases r with
 |none=>
  obtain⟨H',hu,hkk⟩:=hr
  obtain⟨w',hs,ho⟩:=bj (P:=P) hw _ _ hu
  refine⟨w',H',?_,ho,hkk⟩
  simp[Instr.mapUpdate,run_underlying ht,aG hw hu.mem,cX,m5,hs]
 |some x=>
  obtain⟨j,v⟩:=x
  obtain⟨hsame,hj,H',hu,hkk⟩:=hr
  obtain⟨w',hs,ho⟩:=bj (P:=P) hw _ _ hu
  refine⟨w',H',?_,ho,hkk⟩
  have NA:=hsame es[j] (Array.getElem?_eq_getElem hj)
  simp[Instr.mapUpdate,run_underlying ht,aG hw hu.mem,cX,m5,hj,Instr.keyThatStays,NA,hs]
theorem kH.run{kd:TypeDesc}{m key:Value}{k:Hp→Prop}(h:kH kd H m key k){w:World}(hw:Own g H w){t kt e ty:TypeId}{as:Array TypeId}(has:as[0]? =some t)
 (ht:P.underlying t=some (.map kt e))(hk:P.underlying kt=some kd)(hp:plainKey kd=true):
  ∃w' H',(Builtin.delete_ as ty #[m,key]).run P w=.ok (.tuple #[]) w'∧Own g H' w'∧k H':=by
 have cX:=fun b=>run_checkKey (P:=P) b hk hp key w
 rcases h with⟨rfl,hkk⟩|⟨b,es,clock,r,rfl,hf,hr⟩
 ·exact⟨w,H,by simp[Builtin.delete_,has,run_underlying ht,cX],hw,hkk⟩
 ·have m5:=run_findKey (P:=P) hk hf w
  cases r with
  |none=>
   obtain⟨hm,hkk⟩:=hr
   have hu:∃H',ct b (.map es clock) (.map es clock) H H'∧H'=H:=by
    clear hkk hf m5 hw
    induction H with
    |nil=>simp at hm
    |cons x R ih=>
     rcases List.mem_cons.1 hm with e|hm'
     ·subst e;exact⟨_,.head _,rfl⟩
     ·obtain⟨H',u,rfl⟩:=ih hm';exact⟨_,.tail u,rfl⟩
   obtain⟨H',hu,rfl⟩:=hu
   obtain⟨w',hs,ho⟩:=bj (P:=P) hw _ _ hu
   exact⟨w',_,by simp[Builtin.delete_,has,run_underlying ht,aG hw hm,cX,m5,hs],ho,hkk⟩
  |some x=>
   obtain⟨j,v⟩:=x
   obtain⟨H',hu,hkk⟩:=hr
   obtain⟨w',hs,ho⟩:=bj (P:=P) hw _ _ hu
   exact⟨w',_,by simp[Builtin.delete_,has,run_underlying ht,aG hw hu.mem,cX,m5,hs],ho,hkk⟩
theorem tf{kd:TypeDesc}(h:bM kd=true)(key:Value)(es:List MapEntry)(i:Nat):Instr.findNow kd key es i=if es=[]then some none else none:=by
 cases es with
 |nil=>rfl
 |cons e r=>
  simp only[Instr.findNow,reduceCtorEq,if_false]
  cases kd<;>simp[bM]at h<;>rfl
theorem iG{kt:TypeId}{key:Value}:∀{es:List MapEntry} {i:Nat} {r:Option (Nat×Value)},ir P kt key es i r→∀w,(Instr.findAsking kt key es i).run P w=.ok r w
 | [],i,r,h,w=>by simp only[ir]at h;subst h;rfl
 |e::es,i,r,h,w=>by
  obtain⟨b,he,h1,h2⟩:=h
  simp only[Instr.findAsking,Sem.run_bind,he w,Result.andThen_ok]
  cases b
  ·simp only[Bool.false_eq_true,if_false];exact iG (h2 rfl) w
  ·simp only[if_true,h1 rfl,Sem.run_pure]
theorem dN{t:TypeId}{d:TypeDesc}(hd:P.underlying t=some d)(ha:bM d=true){key:Value}{es:List MapEntry}{r:Option (Nat×Value)}(h:ir P t key es 0 r)(w:World):
  (Instr.findKey t key es).run P w=.ok r w:=by
 simp only[Instr.findKey,Sem.run_bind,run_underlying hd,Result.andThen_ok,tf ha]
 cases es with
 |nil=>simp only[ir]at h;subst h;simp
 |cons e es=>simp only[reduceCtorEq,if_false];exact iG h w
theorem gG.run{zero:Value}{ok:Bool}{m key:Value}{k:Value→Prop}{t kt e:TypeId}{kd:TypeDesc}(h:gG P kt zero ok H m key k){w:World}(hw:Own g H w){i:TypeInfo}
 (ht:P.underlying t=some (.map kt e))(hk:P.underlying kt=some kd)(hp:bM kd=true)(hi:P.info? e=some i)(hz:i.zero=some zero):
  ∃v,(Instr.lookup t m key ok).run P w=.ok v w∧k v:=by
 obtain⟨es,r,hm,hc,hf,hkv⟩:=h
 have cX:=fun b=>hc b w
 have m5:=dN (P:=P) hk hp hf w
 refine⟨_,?_,hkv⟩
 rcases hm.run (P:=P) hw with⟨rfl,rfl⟩|⟨b,clock,rfl,hg⟩
 ·cases r with
  |none=>cases ok<;>simp[Instr.lookup,run_underlying ht,cX,m5,cQ hi hz]
  |some x=>obtain⟨j,v⟩:=x;cases ok<;>simp[Instr.lookup,run_underlying ht,cX,m5]
 ·cases r with
  |none=>cases ok<;>simp[Instr.lookup,run_underlying ht,cX,m5,cQ hi hz,hg]
  |some x=>obtain⟨j,v⟩:=x;cases ok<;>simp[Instr.lookup,run_underlying ht,cX,m5,hg]
theorem ig.run{m key val:Value}{k:Hp→Prop}{t kt e:TypeId}{kd:TypeDesc}(h:ig P kt H m key val k){w:World}(hw:Own g H w)
 (ht:P.underlying t=some (.map kt e))(hk:P.underlying kt=some kd)(hp:bM kd=true):
  ∃w' H',(Instr.mapUpdate t m key val).run P w=.ok () w'∧Own g H' w'∧k H':=by
 obtain⟨b,es,clock,r,rfl,hc,hf,hr⟩:=h
 have cX:=fun b=>hc b w
 have m5:=dN (P:=P) hk hp hf w
 cases r with
 |none=>
  obtain⟨H',hu,hkk⟩:=hr
  obtain⟨w',hs,ho⟩:=bj (P:=P) hw _ _ hu
  refine⟨w',H',?_,ho,hkk⟩
  simp[Instr.mapUpdate,run_underlying ht,aG hw hu.mem,cX,m5,hs]
 |some x=>
  obtain⟨j,v⟩:=x
  obtain⟨hsame,hj,H',hu,hkk⟩:=hr
  obtain⟨w',hs,ho⟩:=bj (P:=P) hw _ _ hu
  refine⟨w',H',?_,ho,hkk⟩
  have NA:=hsame es[j] (Array.getElem?_eq_getElem hj)
  simp[Instr.mapUpdate,run_underlying ht,aG hw hu.mem,cX,m5,hj,Instr.keyThatStays,NA,hs]
theorem ct.same{b:Nat}{o:Obj}{H:Hp}(hm:(b,o)∈H):ct b o o H H:=by
 induction H with
 |nil=>simp at hm
 |cons x R ih=>
  rcases List.mem_cons.1 hm with e|hm'
  ·subst e;exact .head _
  ·exact .tail (ih hm')
theorem l9.run{m key:Value}{k:Hp→Prop}{t kt e ty:TypeId}{kd:TypeDesc}{as:Array TypeId}(h:l9 P kt H m key k){w:World}(hw:Own g H w)(has:as[0]? =some t)
 (ht:P.underlying t=some (.map kt e))(hk:P.underlying kt=some kd)(hp:bM kd=true):
  ∃w' H',(Builtin.delete_ as ty #[m,key]).run P w=.ok (.tuple #[]) w'∧Own g H' w'∧k H':=by
 obtain⟨hc,h⟩:=h
 have cX:=fun b=>hc b w
 rcases h with⟨rfl,hkk⟩|⟨b,es,clock,r,rfl,hf,hr⟩
 ·exact⟨w,H,by simp[Builtin.delete_,has,run_underlying ht,cX],hw,hkk⟩
 ·have m5:=dN (P:=P) hk hp hf w
  cases r with
  |none=>
   obtain⟨hm,hkk⟩:=hr
   obtain⟨w',hs,ho⟩:=bj (P:=P) hw _ _ (ct.same hm)
   exact⟨w',_,by simp[Builtin.delete_,has,run_underlying ht,aG hw hm,cX,m5,hs],ho,hkk⟩
  |some x=>
   obtain⟨j,v⟩:=x
   obtain⟨H',hu,hkk⟩:=hr
   obtain⟨w',hs,ho⟩:=bj (P:=P) hw _ _ hu
   exact⟨w',_,by simp[Builtin.delete_,has,run_underlying ht,aG hw hu.mem,cX,m5,hs],ho,hkk⟩
theorem MM.run{x:Value}{k:Value→Hp→Prop}(h:MM H x k){w:World}(hw:Own g H w){t kt e:TypeId}(ht:P.underlying t=some (.map kt e)):
  ∃v w' H',(Instr.range t x).run P w=.ok v w'∧Own g H' w'∧k v H':=by
 rcases h with⟨rfl,hk⟩|⟨m,es,clock,rfl,hm,hk⟩
 ·refine⟨_,_,_,?_,hw.alloc _,hk _ hw.fresh⟩
  simp[Instr.range,run_underlying ht]
 ·refine⟨_,_,_,?_,hw.alloc _,hk _ hw.fresh⟩
  simp[Instr.range,run_underlying ht,aG hw hm]
theorem ij{w:World}(hw:Own g H w){b:Nat}{mo:Option Nat}{since last:Nat}{seen:Array Nat}(hm:(b,Obj.mapIter mo since seen last)∈H):(getObj b).run P w=.ok (.mapIter mo since seen last) w:=by
 have:=hw.has _ hm
 simp only at this
 simp[getObj,Sem.run,this]
theorem nk{w:World}(hw:Own g H w){b:Nat}{mo Nf:Option Nat}{since last since' last':Nat}{seen seen':Array Nat}{H':Hp}(hu:ct b (.mapIter mo since seen last) (.mapIter Nf since' seen' last') H H'):
  ∃w',(setObj b (.mapIter Nf since' seen' last')).run P w=.ok () w'∧Own g H' w':=by
 have hm:=hw.has _ hu.mem
 simp only at hm
 refine⟨{w with heap:=w.heap.setIfInBounds b (.mapIter Nf since' seen' last')},by simp[setObj,Sem.run,hm],?_⟩
 have hlt:=hw.lt hu.mem
 refine hw.bc hu rfl rfl rfl ?_ ?_
 ·simp only at hlt;simp[hlt]
 ·intro c hc;rw[Array.getElem?_setIfInBounds,if_neg (fun e=>hc (Eq.symm e))]
theorem Gy.run{it:Value}{k:Value→Prop}(h:Gy H it k){w:World}(hw:Own g H w):∃v,(Instr.entry it).run P w=.ok v w∧k v:=by
 obtain⟨b,m,since,seen,stamp,clock,es,e,rfl,hb,hs,hm,hf,hk⟩:=h
 refine⟨_,?_,hk⟩
 simp[Instr.entry,ij (P:=P) hw hb,hs,aG (P:=P) hw hm,hf]
theorem nm(n:Nat)(hn:0<n){w:World}:∃i w',(choose (.mapNext n)).run P w=.ok i w'∧i<n∧(w'=w∨w'=w.drew):=by
 by_cases h:n≤1
 ·exact⟨0,w,by simp[choose,Sem.run,Question.forced,h],hn,.inl rfl⟩
 ·exact⟨_,_,by simp only[choose,Sem.run,Question.forced,h,decide_false,Bool.false_eq_true,if_false];rfl,Nat.mod_lt _ hn,.inr rfl⟩
theorem LR.run{it:Value}{k:Value→Hp→Prop}(h:LR H it k){w:World}(hw:Own g H w){ty:TypeId}:
  ∃v w' H',(Instr.next it false ty).run P w=.ok v w'∧Own g H' w'∧k v H':=by
 obtain⟨b,mo,since,seen,last,rfl,hb,h⟩:=h
 have PS:=ij (P:=P) hw hb
 cases mo with
 |none=>exact⟨_,w,H,by simp[Instr.next,PS],hw,h⟩
 |some m=>
  obtain⟨es,clock,hm,CZ,Kx,Kr⟩:=h
  have RD:=aG (P:=P) hw hm
  have KA:(!seen.isEmpty&& !es.isEmpty&&es.all (fun e=>decide (e.born≥last)))=false:=by
   cases he:es.isEmpty
   ·have hne:es≠#[]:=by intro e;rw[e]at he;simp at he
    have:es.all (fun e=>decide (e.born≥last))=false:=by
     rw[←Bool.not_eq_true,Array.all_eq_true]
     intro aD
     have h0:0<es.size:=Array.size_pos_iff.2 hne
     have:=aD 0 h0
     have h2:=(CZ es[0] (by simp)).2
     simp only[ge_iff_le,decide_eq_true_eq]at this
     omega
    rw[this];simp
   ·simp
  have hold:((es.filter fun e=> !seen.contains e.born).filter fun e=>decide (e.born<since))=es.filter fun e=> !seen.contains e.born:=by
   rw[Array.filter_eq_self]
   intro e he
   have:=(Array.mem_filter.1 he).1
   exact decide_eq_true (CZ e (by simpa using this)).1
  have hnew:((es.filter fun e=> !seen.contains e.born).filter fun e=>decide (e.born≥since))=#[]:=by
   rw[Array.filter_eq_empty_iff]
   intro e he
   have:=(Array.mem_filter.1 he).1
   have:=(CZ e (by simpa using this)).1
   simp only[ge_iff_le,decide_eq_true_eq];omega
  generalize hleft:(es.filter fun e=> !seen.contains e.born)=left at hold hnew
  have hrun:∀(rest:Sem Value),(Instr.next (.pointer (some ⟨b,0,none⟩)) false ty).run P w=((choose (.mapNext (((if left.isEmpty then#[none]else#[])++left.map some).size))).run P w).andThen fun i w=>(Sem.run P (match((if left.isEmpty then#[none]else#[])++left.map some)[i]? with
    |some (some e)=>do setObj b (.mapIter (some m) since (seen.push e.born) clock);pure (.tuple #[.bool true,e.key,e.val])
    |some none=>pure (.tuple #[.bool false])
    |none=>stuck "Next: no such candidate" :Sem Value) w):=by
   intro _
   simp only[Instr.next,Sem.run_bind,PS,Result.andThen_ok,RD,KA,Bool.false_eq_true,if_false,hleft,hold,hnew,Array.append_empty,Sem.run_pure]
   rfl
  rw[hrun (pure undef)]
  by_cases IG:left=#[]
  ·subst IG
   simp only[Array.isEmpty_empty,if_true,Array.map_empty,Array.append_empty]
   refine⟨_,w,H,?_,hw,Kr fun e he=>?_⟩
   ·simp[choose,Sem.run,Question.forced]
   ·have:=Array.filter_eq_empty_iff.1 hleft e (by simpa using he)
    simpa using this
  ·have hne:left.isEmpty=false:=by simpa using IG
   have hpos:0<left.size:=Array.size_pos_iff.2 IG
   simp only[hne,Bool.false_eq_true,if_false,Array.empty_append,Array.size_map]
   obtain⟨i,w1,hc,hi,kO⟩:=nm (P:=P) (w:=w) left.size hpos
   rw[hc]
   simp only[Result.andThen_ok]
   have fK:(left.map some)[i]? =some (some left[i]):=by simp[hi]
   simp only[fK]
   have hmem:left[i]∈es.filter fun e=> !seen.contains e.born:=by rw[hleft];exact Array.getElem_mem hi
   obtain⟨II,Jy⟩:=Array.mem_filter.1 hmem
   obtain⟨H',hu,hk⟩:=Kx left[i] (by simpa using II) (by simpa using Jy)
   have zN:Own g H w1:=by rcases kO with rfl|rfl;exact hw;exact hw.drew
   obtain⟨w2,hs,yq⟩:=nk (P:=P) zN hu
   exact⟨_,w2,H',by simp[hs],yq,hk⟩
end
end Go.Sx
namespace Go.Sx
open Go
section
variable {P:Program} {g:Gh} {H:Hp} {K:Value→Hp→Prop} {KP:List PanicEntry→Hp→Prop}
def LS(x:Value):Option Value:=
 match x with
 | .pointer (some a)=>some (.pointer (some a))
 | .func (.func f) a b=>some (.func (.func f) a b)
 | .iface t v=>some (.iface t v)
 |_=>none
def Nil(x:Value)(k:Value→Prop):Prop:=∃v,LS x=some v∧k v
def SO(fn:Fn)(a b:List Value)(k:Value→Prop):Prop:=k (.func fn a.toArray b.toArray)
def Build(P:Program)(t:TypeId)(parts:List (Nat×Value))(k:Value→Prop):Prop:=∃v,(∀w,(Instr.build t parts.toArray).run P w=.ok v w)∧k v
def fx(P:Program)(g:Gh)(o:Oper)(ρ:Operand→Value)(H:Hp)(k:Value→Prop):Prop:=
 ∃v,(∀w,Own g H w→(execOp ρ o).run P w=.ok (.value v) w)∧k v
def cC(P:Program)(t:TypeId):Option Nat:=match P.info? t with|some i=>some i.size|none=>none
def ed(P:Program)(t:TypeId):Option Value:=match P.info? t with|some i=>i.zero|none=>none
def oR(P:Program)(t:TypeId):Option Nat:=match P.info? t with|some i=>some i.bytes|none=>none
def tT(P:Program)(g:Gh)(o:Oper)(ρ:Operand→Value)(H:Hp)(k:Value→Prop):Prop:=
 match o.op with
 | .move x=>k (ρ x)
 | .assign x=>k (ρ x)
 | .pick c a b=>aq (ρ c) (ρ a) (ρ b) k
 | .load t a=>
  match P.underlying t,cC P t with
  |some d,some n=>cond (bM d) (ay n H (ρ a) k) (Ld H (ρ a) k)
  |_,_=>False
 | .nilCheck x=>Nil (ρ x) k
 | .binOp op t x y _=>
  match P.underlying t with
  |some d=>match rQ d with
   | .other=>fx P g o ρ H k
   |bk=>aa bk op (ρ x) (ρ y) k
  |none=>False
 | .unOp op _ x=>Un op (ρ x) k
 | .convert s d x=>
  match P.underlying s,P.underlying d with
  |some _,some (.int kd)=>bB kd (ρ x) k
  |some (.slice e),some .string=>match P.underlying e with
   |some (.int .u8)=>mL H (ρ x) k
   |_=>fx P g o ρ H k
  |_,_=>fx P g o ρ H k
 | .index t x i=>
  match P.underlying t with
  |some .string=>Hu (ρ x) (ρ i) k
  |_=>fx P g o ρ H k
 | .fieldAddr s x f=>
  match P.underlying s with
  |some (.struct fs)=>match fs[f]? with
   |some fl=>match cC P fl.type with
    |some (_+1)=>ag fl.offset (ρ x) k
    |_=>False
   |none=>False
  |_=>False
 | .field s x f=>
  match P.underlying s with
  |some (.struct fs)=>match fs[f]? with
   |some fl=>match P.underlying fl.type,cC P fl.type with
    |some d,some n=>cond (bM d) (Gw fl.offset n (ρ x) k) (A7 fl.offset (ρ x) k)
    |_,_=>False
   |none=>False
  |_=>False
 | .indexAddr t x i=>
  match P.underlying t with
  |some (.slice e)=>match cC P e with
   |some n=>ai n (ρ x) (ρ i) k
   |none=>False
  |some (.array len e)=>match cC P e with
   |some n=>ff len n (ρ x) (ρ i) k
   |none=>False
  |_=>False
 | .slice t x lo hi none=>
  match P.underlying t with
  |some (.slice e)=>match cC P e with
   |some n=>dA n (ρ x) (lo.map ρ) (hi.map ρ) k
   |none=>False
  |_=>fx P g o ρ H k
 | .extract t i=>Ext i (ρ t) k
 | .lookup t m key ok=>
  match P.underlying t with
  |some (.map kt e)=>match P.underlying kt,ed P e with
   |some kd,some z=>cond (plainKey kd) (dW kd z ok H (ρ m) (ρ key) k) (cond (bM kd) (gG P kt z ok H (ρ m) (ρ key) k) (fx P g o ρ H k))
   |_,_=>False
  |_=>False
 | .makeFunc fn a b=>SO fn (a.toList.map ρ) (b.toList.map ρ) k
 | .build t parts=>Build P t (parts.toList.map fun p=>(p.1,ρ p.2)) k
 | .makeInterface t x=>
  match P.underlying t with
  |some (.interface _)=>False
  |some _=>k (.iface t (ρ x))
  |none=>False
 | .call c=>
  match c.callee with
  | .builtin .len=>
   match c.args.toList,c.argTypes.toList with
   | [x],[t]=>match P.underlying t with
    |some (.slice _)=>aM (ρ x) k
    |some (.map _ _)=>rT H (ρ x) k
    |some .string=>I9 (ρ x) k
    |_=>fx P g o ρ H k
   |_,_=>False
  | .builtin .max=>match c.args.toList,c.argTypes.toList with
   | [x,y],[t,_]=>match P.underlying t with
    |some (.int _)=>O5 (ρ x) (ρ y) k
    |_=>fx P g o ρ H k
   |_,_=>fx P g o ρ H k
  | .builtin .min=>match c.args.toList,c.argTypes.toList with
   | [x,y],[t,_]=>match P.underlying t with
    |some (.int _)=>LV (ρ x) (ρ y) k
    |_=>fx P g o ρ H k
   |_,_=>fx P g o ρ H k
  | .builtin _=>fx P g o ρ H k
  |_=>False
 |_=>fx P g o ρ H k
theorem mapList{α β:Type}(f:α→β)(a:Array α):(a.toList.map f).toArray=a.map f:=by rw[←Array.toList_map,Array.toArray_toList]
theorem LJ{α:Type}{a:Array α}{x:α}(h:a.toList=[x]):a=#[x]:=by cases a;simp_all
theorem tG{α:Type}{a:Array α}{x y:α}(h:a.toList=[x,y]):a=#[x,y]:=by cases a;simp_all
theorem Ld.fix{p:Value}{k:Value→Prop}(h:Ld H p k):∃v,k v∧Ld H p (· =v):=by
 obtain⟨b,off,c,T,fz,v,h1,h2,h3,hk⟩:=h;exact⟨v,hk,b,off,c,T,fz,v,h1,h2,h3,rfl⟩
theorem ay.fix{n:Nat}{p:Value}{k:Value→Prop}(h:ay n H p k):∃v,k v∧ay n H p (· =v):=by
 obtain⟨b,off,c,T,fz,h1,h2,h3,hk⟩:=h;exact⟨_,hk,b,off,c,T,fz,h1,h2,h3,rfl⟩
theorem dW.fix{kd:TypeDesc}{zero:Value}{ok:Bool}{m key:Value}{k:Value→Prop}(h:dW kd zero ok H m key k):∃v,k v∧dW kd zero ok H m key (· =v):=by
 obtain⟨es,r,h1,h2,hk⟩:=h;exact⟨_,hk,es,r,h1,h2,rfl⟩
theorem rT.fix{x:Value}{k:Value→Prop}(h:rT H x k):∃v,k v∧rT H x (· =v):=by
 obtain⟨m,h1,⟨h2,hk⟩|⟨b,es,clock,h2,h3,hk⟩⟩:=h
 ·exact⟨_,hk,m,h1,.inl ⟨h2,rfl⟩⟩
 ·exact⟨_,hk,m,h1,.inr ⟨b,es,clock,h2,h3,rfl⟩⟩
theorem gG.fix{kt:TypeId}{zero:Value}{ok:Bool}{m key:Value}{k:Value→Prop}(h:gG P kt zero ok H m key k):∃v,k v∧gG P kt zero ok H m key (· =v):=by
 obtain⟨es,r,h1,h2,h3,hk⟩:=h;exact⟨_,hk,es,r,h1,h2,h3,rfl⟩
theorem u3{F:Value→ByteArray→Sem (ForInStep ByteArray)}(hF:∀(b:UInt8) s,F (.int .u8 b.toNat) s=pure (.yield (s.push b))){l:List UInt8}(s:ByteArray)(w:World):
  (forIn (l.map fun b=>Value.int .u8 b.toNat) s F).run P w=.ok (⟨s.data++l.toArray⟩:ByteArray) w:=by
 induction l generalizing s with
 |nil=>simp
 |cons b r ih=>
  simp only[List.map_cons,List.forIn_cons,hF,Sem.run_bind,Sem.run_pure,Result.andThen_ok]
  rw[ih]
  congr 1
  simp[ByteArray.push]
theorem mL.run{x:Value}{k:Value→Prop}(h:mL H x k){w:World}(hw:Own g H w):∃v,(Conv.bytesToString x).run P w=.ok v w∧k v:=by
 obtain⟨base,n,c,bs,rfl,hc,hn,hk⟩:=h
 refine⟨_,?_,hk⟩
 cases base with
 |none=>
  simp only[Cells]at hc
  have:bs=[]:=by simpa using congrArg Array.size hc
  subst this;rfl
 |some a=>
  have:=Cells.run (P:=P) (size:=1) (cap:=c) hw (by rw[Nat.mul_one];exact hc)
  simp only[Builtin.firstCells,Nat.mul_one]at this
  simp only[Conv.bytesToString,Sem.run_bind,this,Result.andThen_ok]
  rw[List.forIn_toArray,u3 (P:=P) (l:=bs) (fun b s=>by simp)]
  have e:ByteArray.empty.data=#[]:=rfl
  simp[e]
theorem mL.fix{x:Value}{k:Value→Prop}(h:mL H x k):∃v,k v∧mL H x (· =v):=by
 obtain⟨base,n,c,bs,h1,h2,h3,hk⟩:=h;exact⟨_,hk,base,n,c,bs,h1,h2,h3,rfl⟩
def Reads(P:Program)(g:Gh)(o:Oper)(ρ:Operand→Value)(H:Hp)(k:Value→Prop):Prop:=
 ∃v,k v∧∀w,Own g H w→(execOp ρ o).run P w=.ok (.value v) w
theorem Reads.mk{o:Oper}{ρ:Operand→Value}{k:Value→Prop}{s:Sem Value}(he:execOp ρ o=(do pure (.value (←s))))(h:∃v,k v∧∀w,Own g H w→s.run P w=.ok v w):Reads P g o ρ H k:=by
 obtain⟨v,hk,hr⟩:=h
 refine⟨v,hk,fun w hw=>?_⟩
 rw[he]
 simp only[Sem.run_bind,hr w hw,Result.andThen_ok,Sem.run_pure]
theorem fx.reads{o:Oper}{ρ:Operand→Value}{k:Value→Prop}(h:fx P g o ρ H k):Reads P g o ρ H k:=let ⟨v,h1,h2⟩:=h;⟨v,h2,h1⟩
theorem Ji{s:Sem Value}{k:Value→Prop}{C:(Value→Prop)→Prop}(Oa:∃v,k v∧C (· =v))(hrun:∀(k:Value→Prop),C k→∀w,Own g H w→∃v,s.run P w=.ok v w∧k v):
  ∃v,k v∧∀w,Own g H w→s.run P w=.ok v w:=by
 obtain⟨v,hk,hc⟩:=Oa
 refine⟨v,hk,fun w hw=>?_⟩
 obtain⟨u,hr,rfl⟩:=hrun _ hc w hw
 exact hr
theorem aW{t:TypeId}{n:Nat}(h:cC P t=some n):∃i,P.info? t=some i∧i.size=n:=by
 unfold cC at h
 split at h
 ·rename_i i hi;exact⟨i,hi,by simpa using h⟩
 ·simp at h
theorem bV{t:TypeId}{z:Value}(h:ed P t=some z):∃i,P.info? t=some i∧i.zero=some z:=by
 unfold ed at h
 split at h
 ·rename_i i hi;exact⟨i,hi,by simpa using h⟩
 ·simp at h
theorem gu{o:Oper}{ρ:Operand→Value}{k:Value→Prop}(h:tT P g o ρ H k):Reads P g o ρ H k:=by
 obtain⟨dst,op,type,pos,after,guard⟩:=o
 cases op<;>simp only[tT]at h
 case move x=>exact⟨_,h,fun w _=>rfl⟩
 case assign x=>exact⟨_,h,fun w _=>rfl⟩
 case pick c a b=>
  obtain⟨t,hc,hk⟩:=h
  refine⟨_,hk,fun w _=>?_⟩
  cases t<;>simp[execOp,hc,asBool]
 case load t a=>
  split at h
  ·rename_i d n hd hn
   obtain⟨i,hi,hin⟩:=aW hn
   refine Reads.mk (s:=Instr.loadAt t (ρ a)) rfl ?_
   cases ha:bM d<;>simp only[ha,cond_true,cond_false]at h
   ·exact Ji h.fix fun k hk w hw=>hk.run hw hd ha
   ·exact Ji h.fix fun k hk w hw=>hk.run hw hd ha hi hin
  ·exact h.elim
 case nilCheck x=>
  obtain⟨v,hv,hk⟩:=h
  refine⟨v,hk,fun w _=>?_⟩
  unfold LS at hv
  simp only[execOp]
  split at hv<;>simp only[Option.some.injEq,reduceCtorEq]at hv<;>subst hv<;>simp_all
 case binOp op t x y yt=>
  split at h
  ·rename_i d hd
   split at h
   ·exact h.reads
   ·rename_i PZ
    refine Reads.mk (s:=do eqGuard op t x y (ρ x) (ρ y);binOp op t (ρ x) (ρ y)) rfl ?_
    obtain⟨v,hv,hk⟩:=h
    exact⟨v,hk,fun w _=>by
     obtain⟨u,hr,rfl⟩:=aa.run (P:=P) (k:=(· =v)) ⟨v,hv,rfl⟩ w (ox:=x) (oy:=y) hd rfl
     exact hr⟩
  ·exact h.elim
 case unOp op t x=>
  obtain⟨v,hv,hk⟩:=h
  refine Reads.mk (s:=Op.unary op (ρ x)) rfl ⟨v,hk,fun w _=>?_⟩
  obtain⟨u,hr,rfl⟩:=Un.run (P:=P) (k:=(· =v)) ⟨v,hv,rfl⟩ w
  exact hr
 case convert s d x=>
  split at h
  ·rename_i ds kd hs hd
   obtain⟨j,n,hx,hk⟩:=h
   refine Reads.mk (s:=Go.convert s d (ρ x)) rfl ⟨_,hk,fun w _=>?_⟩
   obtain⟨u,hr,rfl⟩:=bB.run (P:=P) (kd:=kd) (k:=(· =_)) ⟨j,n,hx,rfl⟩ w hs hd rfl
   exact hr
  ·rename_i e hs hd
   split at h
   ·rename_i he
    refine Reads.mk (s:=Go.convert s d (ρ x)) rfl ?_
    have:∀w,(Go.convert s d (ρ x)).run P w=(Conv.bytesToString (ρ x)).run P w:=fun w=>by
     obtain⟨base,n,c,bs,hx,_⟩:=h
     simp only[Go.convert,Sem.run_bind,run_underlying hs,run_underlying hd,Result.andThen_ok,hx,run_underlying he]
    simp only[this]
    exact Ji h.fix fun k hk w hw=>hk.run hw
   ·exact h.reads
  ·exact h.reads
 case index t x i=>
  split at h
  ·rename_i ht
   obtain⟨s,kd,j,b,hx,hi,h0,hb,hk⟩:=h
   refine Reads.mk (s:=Instr.index t (ρ x) (ρ i)) rfl ⟨_,hk,fun w _=>?_⟩
   simp[Instr.index,run_underlying ht,hx,hi,asIntOf,h0,hb]
  ·exact h.reads
 case fieldAddr s x f=>
  split at h<;>try exact h.elim
  rename_i fs hs
  split at h<;>try exact h.elim
  rename_i fl hf
  split at h<;>try exact h.elim
  rename_i m hm
  obtain⟨i,hi,hin⟩:=aW hm
  obtain⟨b,o,hx,hk⟩:=h
  refine Reads.mk (s:=Instr.fieldAt s (ρ x) f) rfl ⟨_,hk,fun w _=>?_⟩
  obtain⟨u,hr,rfl⟩:=ag.run (P:=P) (k:=(· =_)) ⟨b,o,hx,rfl⟩ w hs hf hi (by omega) rfl
  exact hr
 case field s x f=>
  split at h<;>try exact h.elim
  rename_i fs hs
  split at h<;>try exact h.elim
  rename_i fl hf
  split at h<;>try exact h.elim
  rename_i d n hd hn
  obtain⟨i,hi,hin⟩:=aW hn
  refine Reads.mk (s:=Instr.field s (ρ x) f) rfl ?_
  cases ha:bM d<;>simp only[ha,cond_true,cond_false]at h
  ·obtain⟨cs,v,hx,hv,hk⟩:=h
   refine⟨v,hk,fun w _=>?_⟩
   obtain⟨u,hr,rfl⟩:=A7.run (P:=P) (k:=(· =v)) ⟨cs,v,hx,hv,rfl⟩ w hs hf hd ha rfl
   exact hr
  ·obtain⟨cs,hx,hk⟩:=h
   refine⟨_,hk,fun w _=>?_⟩
   obtain⟨u,hr,rfl⟩:=Gw.run (P:=P) (k:=(· =_)) ⟨cs,hx,rfl⟩ w hs hf hd ha hi hin rfl
   exact hr
 case indexAddr t x ix=>
  refine Reads.mk (s:=Instr.indexAt t (ρ x) (ρ ix)) rfl ?_
  split at h
  ·rename_i e ht
   split at h<;>try exact h.elim
   rename_i n hn
   obtain⟨i,hi,hin⟩:=aW hn
   obtain⟨b,o,n',c,kd,j,hx,NV,h0,h1,hk⟩:=h
   refine⟨_,hk,fun w _=>?_⟩
   obtain⟨u,hr,rfl⟩:=ai.run (P:=P) (k:=(· =_)) ⟨b,o,n',c,kd,j,hx,NV,h0,h1,rfl⟩ w ht hi hin
   exact hr
  ·rename_i len e ht
   split at h<;>try exact h.elim
   rename_i n hn
   obtain⟨i,hi,hin⟩:=aW hn
   obtain⟨b,o,kd,j,hx,NV,h0,h1,hk⟩:=h
   refine⟨_,hk,fun w _=>?_⟩
   obtain⟨u,hr,rfl⟩:=ff.run (P:=P) (k:=(· =_)) ⟨b,o,kd,j,hx,NV,h0,h1,rfl⟩ w ht hi hin
   exact hr
  ·exact h.elim
 case slice t x lo hi mx=>
  cases mx with
  |some m=>simp only at h;exact h.reads
  |none=>
   simp only at h
   split at h
   ·rename_i e ht
    split at h<;>try exact h.elim
    rename_i n hn
    obtain⟨i,hi',hin⟩:=aW hn
    obtain⟨a,n',c,l,hh,hx,hl,kP,h0,h1,h2,hk⟩:=h
    refine Reads.mk (s:=Instr.sliceAt t (ρ x) (lo.map ρ) (hi.map ρ) none) rfl ⟨_,hk,fun w _=>?_⟩
    obtain⟨u,hr,rfl⟩:=dA.run (P:=P) (k:=(· =_)) ⟨a,n',c,l,hh,hx,hl,kP,h0,h1,h2,rfl⟩ w ht hi' hin
    exact hr
   ·exact h.reads
 case extract t i=>
  obtain⟨vs,v,hx,hv,hk⟩:=h
  refine Reads.mk (s:=Instr.extract (ρ t) i) rfl ⟨v,hk,fun w _=>?_⟩
  obtain⟨u,hr,rfl⟩:=Ext.run (P:=P) (k:=(· =v)) ⟨vs,v,hx,hv,rfl⟩ w
  exact hr
 case lookup t m key ok=>
  split at h<;>try exact h.elim
  rename_i kt e ht
  split at h<;>try exact h.elim
  rename_i kd z sZ hz
  obtain⟨i,hi,pG⟩:=bV hz
  cases hp:plainKey kd<;>simp only[hp,cond_true,cond_false]at h
  ·cases me:bM kd<;>simp only[me,cond_true,cond_false]at h
   ·exact h.reads
   ·exact Reads.mk (s:=Instr.lookup t (ρ m) (ρ key) ok) rfl (Ji h.fix fun k hk w hw=>hk.run hw ht sZ me hi pG)
  ·exact Reads.mk (s:=Instr.lookup t (ρ m) (ρ key) ok) rfl (Ji h.fix fun k hk w hw=>hk.run hw ht sZ hp hi pG)
 case makeFunc fn a b=>
  refine⟨_,h,fun w _=>?_⟩
  simp[execOp,Instr.makeFunc,mapList]
 case build t parts=>
  obtain⟨v,hr,hk⟩:=h
  refine Reads.mk (s:=Instr.build t (parts.map fun(i,x)=>(i,ρ x))) rfl ⟨v,hk,fun w _=>?_⟩
  have:=hr w
  rw[mapList (fun p:Nat×Operand=>(p.1,ρ p.2)) parts]at this
  exact this
 case makeInterface t x=>
  split at h
  ·exact h.elim
  ·rename_i d Iu hd
   refine Reads.mk (s:=Instr.makeInterface t (ρ x)) rfl ⟨_,h,fun w _=>?_⟩
   simp only[Instr.makeInterface,Sem.run_bind,run_underlying hd,Result.andThen_ok]
   cases d<;>first|rfl|exact absurd hd (Iu _)
  ·exact h.elim
 case call c=>
  obtain⟨callee,args,argTypes⟩:=c
  cases callee with
  |value f=>simp only at h
  |invoke r m=>simp only at h
  |builtin b=>
   cases b<;>simp only at h<;>try exact h.reads
   case max=>
    split at h<;>try exact h.reads
    rename_i x y t t' hx ht
    split at h<;>try exact h.reads
    have hx:=tG hx
    have ht:=tG ht
    subst hx;subst ht
    obtain⟨kd,a,b,h1,h2,hk⟩:=h
    refine Reads.mk (s:=Builtin.max_ #[t,t'] type #[ρ x,ρ y]) (by simp[execOp,resolve,invoke,builtin,bind,Sem.bind];rfl) ⟨_,hk,fun w _=>?_⟩
    simp[Builtin.max_,Builtin.max2,h1,h2]
   case min=>
    split at h<;>try exact h.reads
    rename_i x y t t' hx ht
    split at h<;>try exact h.reads
    have hx:=tG hx
    have ht:=tG ht
    subst hx;subst ht
    obtain⟨kd,a,b,h1,h2,hk⟩:=h
    refine Reads.mk (s:=Builtin.min_ #[t,t'] type #[ρ x,ρ y]) (by simp[execOp,resolve,invoke,builtin,bind,Sem.bind];rfl) ⟨_,hk,fun w _=>?_⟩
    simp[Builtin.min_,Builtin.min2,h1,h2]
   split at h<;>try exact h.elim
   rename_i x t hx ht
   have hx:=LJ hx
   have ht:=LJ ht
   subst hx;subst ht
   split at h
   ·rename_i e hd
    refine Reads.mk (s:=Builtin.len_ #[t] type #[ρ x]) (by simp[execOp,resolve,invoke,builtin,bind,Sem.bind];rfl) ?_
    obtain⟨a,n,c,hx,hk⟩:=h
    refine⟨_,hk,fun w _=>?_⟩
    obtain⟨u,hr,rfl⟩:=aM.run (P:=P) (k:=(· =_)) ⟨a,n,c,hx,rfl⟩ w (ty:=type) hd
    exact hr
   ·rename_i e e' hd
    refine Reads.mk (s:=Builtin.len_ #[t] type #[ρ x]) (by simp[execOp,resolve,invoke,builtin,bind,Sem.bind];rfl) ?_
    exact Ji h.fix fun k hk w hw=>hk.run hw hd
   ·rename_i hd
    refine Reads.mk (s:=Builtin.len_ #[t] type #[ρ x]) (by simp[execOp,resolve,invoke,builtin,bind,Sem.bind];rfl) ?_
    obtain⟨s,hx,hk⟩:=h
    exact⟨_,hk,fun w _=>by simp[Builtin.len_,run_underlying hd,hx,goInt]⟩
   ·exact h.reads
 all_goals exact h.reads
def valOf(o:Oper)(ρ:Operand→Value)(v:Value):Prop:=
 match o.op with
 | .move x=>v=ρ x
 | .assign x=>v=ρ x
 | .pick c a b=>∀t,ρ c=.bool t→v=cond t (ρ a) (ρ b)
 |_=>True
theorem jx{o:Oper}{ρ:Operand→Value}{k:Value→Prop}(h:tT P g o ρ H k):∃v,k v∧(∀w,Own g H w→(execOp ρ o).run P w=.ok (.value v) w)∧valOf o ρ v:=by
 obtain⟨dst,op,type,pos,after,guard⟩:=o
 cases op
 case move x=>exact⟨_,h,fun w _=>rfl,rfl⟩
 case assign x=>exact⟨_,h,fun w _=>rfl,rfl⟩
 case pick c a b=>
  obtain⟨t,hc,hk⟩:=h
  refine⟨_,hk,fun w _=>?_,fun t' ht'=>?_⟩
  ·cases t<;>simp[execOp,hc,asBool]
  ·rw[hc]at ht';simp only[Value.bool.injEq]at ht';subst ht';rfl
 all_goals
  obtain⟨v,hk,hr⟩:=gu h
  exact⟨v,hk,hr,trivial⟩
end
end Go.Sx
namespace Go.Sx
open Go
section
variable {P:Program} {g:Gh} {H:Hp} {K:Value→Hp→Prop} {KP:List PanicEntry→Hp→Prop}
def ak(P:Program)(t len:Nat)(parts:List (Nat×Value))(H:Hp)(k:Value→Hp→Prop):Prop:=
 ∃cs,(∃e n z,P.underlying t=some (.slice e)∧cC P e=some n∧ed P e=some z∧len*n≤2^24∧
   Instr.fill (fun i=>some (i*n,n)) ((Array.range (len*n)).map (z.cells[· %z.cells.size]!)) parts=some cs∧
   dh H (.cells cs e (0,0)) fun b H'=>k (.slice (some ⟨b,0,none⟩) len len) H')
def D4(P:Program)(g:Gh)(o:Oper)(ρ:Operand→Value)(H:Hp)(K:Value→Hp→Prop)(KP:List PanicEntry→Hp→Prop):Prop:=
 match o.op with
 | .alloc t=>match ed P t with
  |some z=>dh H (.cells z.cells t (0,0)) fun b H'=>K (.pointer (some ⟨b,0,none⟩)) H'
  |none=>False
 | .box t x=>dh H (.cells (ρ x).cells t (0,0)) fun b H'=>K (.pointer (some ⟨b,0,none⟩)) H'
 | .store t a x=>match cC P t with
  |some n=>St n H (ρ a) (ρ x) fun H'=>K undef H'
  |none=>False
 | .buildSlice t len parts=>ak P t len (parts.toList.map fun p=>(p.1,ρ p.2)) H K
 | .makeMap _ none=>j4 H K
 | .makeSlice t l c=>match P.underlying t with
  |some (.slice e)=>match cC P e,oR P e,ed P e with
   |some n,some b,some z=>eJ e n b z H (ρ l) (ρ c) K
   |_,_,_=>False
  |_=>False
 | .mapUpdate t m key x=>match P.underlying t with
  |some (.map kt _)=>match P.underlying kt with
   |some kd=>cond (plainKey kd) (aY kd H (ρ m) (ρ key) (ρ x) fun H'=>K undef H') (cond (bM kd) (ig P kt H (ρ m) (ρ key) (ρ x) fun H'=>K undef H') (jg P g o ρ H K KP))
   |none=>False
  |_=>False
 | .insert t m key x=>match P.underlying t with
  |some (.map kt _)=>match P.underlying kt with
   |some kd=>cond (plainKey kd) (aY kd H (ρ m) (ρ key) (ρ x) fun H'=>K undef H') (cond (bM kd) (ig P kt H (ρ m) (ρ key) (ρ x) fun H'=>K undef H') (jg P g o ρ H K KP))
   |none=>False
  |_=>False
 | .range t x=>match P.underlying t with
  |some (.map _ _)=>MM H (ρ x) K
  |_=>jg P g o ρ H K KP
 | .next it false=>LR H (ρ it) K
 | .entry it=>Gy H (ρ it) fun v=>K v H
 | .call c=>
  match c.callee with
  | .value (.func f)=>cond (aS P f) (ae P g f (c.args.toList.map ρ).toArray H K KP) (jg P g o ρ H K KP)
  | .value f=>bg P g (ρ f) (c.args.toList.map ρ).toArray H K KP
  | .builtin .append=>
   match c.args.toList,c.argTypes.toList with
   | [s,x],[t,t']=>match P.underlying t,P.underlying t' with
    |some (.slice e),some (.slice _)=>match cC P e,oR P e,ed P e with
     |some n,some b,some z=>App P e n b z H (ρ s) (ρ x) K
     |_,_,_=>False
    |_,_=>jg P g o ρ H K KP
   |_,_=>False
  | .builtin .delete=>
   match c.args.toList,c.argTypes.toList with
   | [m,key],[t,_]=>match P.underlying t with
    |some (.map kt _)=>match P.underlying kt with
     |some kd=>cond (plainKey kd) (kH kd H (ρ m) (ρ key) fun H'=>K (.tuple #[]) H') (cond (bM kd) (l9 P kt H (ρ m) (ρ key) fun H'=>K (.tuple #[]) H') (jg P g o ρ H K KP))
     |none=>False
    |_=>False
   |_,_=>jg P g o ρ H K KP
  |_=>jg P g o ρ H K KP
 |_=>jg P g o ρ H K KP
theorem jb{t:TypeId}{n:Nat}(h:oR P t=some n):∃i,P.info? t=some i∧i.bytes=n:=by
 unfold oR at h
 split at h
 ·rename_i i hi;exact⟨i,hi,by simpa using h⟩
 ·simp at h
theorem jg.ofValue{o:Oper}{ρ:Operand→Value}{s:Sem Value}(he:execOp ρ o=(do pure (.value (←s))))(h:∀w,Own g H w→∃v w' H',s.run P w=.ok v w'∧Own g H' w'∧K v H'):jg P g o ρ H K KP:=by
 intro w hw
 obtain⟨v,w',H',hr,ho,hk⟩:=h w hw
 rw[he]
 simp only[Sem.run_bind,hr,Result.andThen_ok,Sem.run_pure]
 exact⟨H',ho,hk⟩
theorem jg.mz{o:Oper}{ρ:Operand→Value}{s:Sem Unit}(he:execOp ρ o=(do s;pure .skip))(h:∀w,Own g H w→∃w' H',s.run P w=.ok () w'∧Own g H' w'∧K undef H'):jg P g o ρ H K KP:=by
 intro w hw
 obtain⟨w',H',hr,ho,hk⟩:=h w hw
 rw[he]
 simp only[Sem.run_bind,hr,Result.andThen_ok,Sem.run_pure]
 exact⟨H',ho,hk⟩
theorem cY{f:FuncId}(h:aS P f=true)(args:Array Value)(w:World):(callFunc f args).run P w=.ok (.enter f args) w:=by
 unfold aS at h
 split at h
 ·simp at h
 ·rename_i fn hf
  simp only[Bool.and_eq_true,Bool.not_eq_true']at h
  obtain⟨h1,h2⟩:=h
  have h3:fn.body.isNone=false:=by cases hb:fn.body<;>simp_all
  simp only[callFunc,Sem.run_bind,run_program,Result.andThen_ok,hf,show(fn.name== "runtime.NumGoroutine")=false from h1,h3,Bool.false_eq_true,if_false]
  rfl
theorem bg.op{o:Oper}{c:Call}{ρ:Operand→Value}{x:Operand}(ho:o.op=.call c)(hc:c.callee=.value x)(h:bg P g (ρ x) (c.args.toList.map ρ).toArray H K KP):jg P g o ρ H K KP:=by
 obtain⟨f,first,captured,hf,fo,yx⟩:=h
 rw[mapList]at yx
 intro w hw
 have hr:(execOp ρ o).run P w=.ok (.enter f (first++c.args.map ρ++captured)) w:=by
  simp only[execOp,ho,resolve,hc,Deferred.ofValue,hf,invoke]
  show(callFunc f (first++c.args.map ρ++captured)).run P w=_
  exact cY fo _ w
 rw[hr]
 exact yx w hw
theorem nZ{o:Oper}{ρ:Operand→Value}(hρ:∀f,ρ (.func f)=.func (.func f) #[] #[])(h:D4 P g o ρ H K KP):jg P g o ρ H K KP:=by
 unfold D4 at h
 split at h
 case h_1 t hop=>
  split at h
  ·rename_i z hz
   obtain⟨i,hi,pG⟩:=bV hz
   refine jg.ofValue (s:=Instr.alloc t true (.tuple #[])) (by simp only[execOp,hop]) fun w hw=>⟨_,_,_,?_,hw.alloc _,h _ hw.fresh⟩
   simp[Instr.alloc,cQ hi pG,newVar,newRow]
  ·exact h.elim
 case h_2 t x hop=>
  refine jg.ofValue (s:=Instr.box t (ρ x)) (by simp only[execOp,hop]) fun w hw=>⟨_,_,_,?_,hw.alloc _,h _ hw.fresh⟩
  simp[Instr.box,newVar,newRow]
 case h_3 t a x hop=>
  split at h
  ·rename_i n hn
   obtain⟨i,hi,hin⟩:=aW hn
   exact jg.mz (s:=Instr.storeAt t (ρ a) (ρ x)) (by simp only[execOp,hop]) fun w hw=>h.run hw hi hin
  ·exact h.elim
 case h_4 t len parts hop=>
  obtain⟨cs,e,n,z,ht,hn,hz,hl,hf,hk⟩:=h
  obtain⟨i,hi,hin⟩:=aW hn
  obtain⟨i',hi',pG⟩:=bV hz
  have:i'=i:=Option.some.inj (hi'.symm.trans hi)
  subst this
  subst hin
  refine jg.ofValue (s:=Instr.buildSlice t len (parts.map fun(i,x)=>(i,ρ x))) (by simp only[execOp,hop]) fun w hw=>⟨_,_,_,?_,hw.alloc _,hk _ hw.fresh⟩
  have hl':¬(len*i'.size>2^24):=by omega
  have D8:(parts.map fun(x:Nat×Operand)=>(x.1,ρ x.2)).toList=parts.toList.map fun p=>(p.1,ρ p.2):=by rw[Array.toList_map]
  by_cases h0:len*i'.size=0
  ·simp only[Instr.buildSlice,Sem.run_bind,run_underlying ht,Result.andThen_ok,run_sizeOf hi,hl',if_false,h0,if_true,Sem.run_pure]
   rw[h0]at hf
   have Il:Array.range 0=#[]:=rfl
   simp only[Il,Array.map_empty,List.map_toArray,List.map_nil]at hf⊢
   rw[D8,hf]
   simp[newRow]
  ·simp only[Instr.buildSlice,Sem.run_bind,run_underlying ht,Result.andThen_ok,run_sizeOf hi,hl',if_false,h0,cQ hi pG,Sem.run_pure]
   simp[hf,newRow]
 case h_5 t hop=>
  refine jg.ofValue (s:=Instr.makeMap t none) (by simp only[execOp,hop];rfl) fun w hw=>⟨_,_,_,?_,hw.alloc _,h _ hw.fresh⟩
  simp[Instr.makeMap]
 case h_6 t l c hop=>
  split at h<;>try exact h.elim
  rename_i e ht
  split at h<;>try exact h.elim
  rename_i n b z hn hb hz
  obtain⟨i,hi,hin⟩:=aW hn
  obtain⟨i',hi',pG⟩:=bV hz
  obtain⟨i2,zV,ov⟩:=jb hb
  have e1:i'=i:=Option.some.inj (hi'.symm.trans hi)
  have e2:i2=i:=Option.some.inj (zV.symm.trans hi)
  subst e1;subst e2
  exact jg.ofValue (s:=Instr.makeSlice t (ρ l) (ρ c)) (by simp only[execOp,hop]) fun w hw=>h.run hw ht hi pG hin ov
 case h_7 t m key x hop=>
  split at h<;>try exact h.elim
  rename_i kt e ht
  split at h<;>try exact h.elim
  rename_i kd sZ
  cases hp:plainKey kd<;>simp only[hp,cond_true,cond_false]at h
  ·cases me:bM kd<;>simp only[me,cond_true,cond_false]at h
   ·exact h
   ·exact jg.mz (s:=Instr.mapUpdate t (ρ m) (ρ key) (ρ x)) (by simp only[execOp,hop]) fun w hw=>h.run hw ht sZ me
  ·exact jg.mz (s:=Instr.mapUpdate t (ρ m) (ρ key) (ρ x)) (by simp only[execOp,hop]) fun w hw=>h.run hw ht sZ hp
 case h_8 t m key x hop=>
  split at h<;>try exact h.elim
  rename_i kt e ht
  split at h<;>try exact h.elim
  rename_i kd sZ
  cases hp:plainKey kd<;>simp only[hp,cond_true,cond_false]at h
  ·cases me:bM kd<;>simp only[me,cond_true,cond_false]at h
   ·exact h
   ·exact jg.mz (s:=Instr.mapUpdate t (ρ m) (ρ key) (ρ x)) (by simp only[execOp,hop]) fun w hw=>h.run hw ht sZ me
  ·exact jg.mz (s:=Instr.mapUpdate t (ρ m) (ρ key) (ρ x)) (by simp only[execOp,hop]) fun w hw=>h.run hw ht sZ hp
 case h_9 t x hop=>
  split at h
  ·rename_i kt e ht
   exact jg.ofValue (s:=Instr.range t (ρ x)) (by simp only[execOp,hop]) fun w hw=>h.run hw ht
  ·exact h
 case h_10 it hop=>
  exact jg.ofValue (s:=Instr.next (ρ it) false o.type) (by simp only[execOp,hop]) fun w hw=>h.run hw
 case h_11 it hop=>
  exact jg.ofValue (s:=Instr.entry (ρ it)) (by simp only[execOp,hop]) fun w hw=>let ⟨v,hr,hk⟩:=h.run hw;⟨v,w,H,hr,hw,hk⟩
 case h_12 c hop=>
  split at h
  ·rename_i f hc
   cases fo:aS P f<;>simp only[fo,cond_true,cond_false]at h
   ·exact h
   ·rw[mapList]at h
    intro w hw
    have hr:(execOp ρ o).run P w=.ok (.enter f (c.args.map ρ)) w:=by
     simp only[execOp,hop,resolve,hc,Deferred.ofValue,hρ,invoke]
     show(callFunc f ((#[]++c.args.map ρ)++ #[])).run P w=_
     rw[Array.empty_append,Array.append_empty]
     exact cY fo _ w
    rw[hr]
    exact h w hw
  ·rename_i x _ hc
   exact bg.op hop hc h
  ·rename_i hc
   split at h<;>try exact h.elim
   rename_i s x t t' hx ht
   have hx:=tG hx
   have ht:=tG ht
   split at h
   ·rename_i e e' hd cE
    split at h<;>try exact h.elim
    rename_i n b z hn hb hz
    obtain⟨i,hi,hin⟩:=aW hn
    obtain⟨i',hi',pG⟩:=bV hz
    obtain⟨i2,zV,ov⟩:=jb hb
    have e1:i'=i:=Option.some.inj (hi'.symm.trans hi)
    have e2:i2=i:=Option.some.inj (zV.symm.trans hi)
    subst e1;subst e2
    refine jg.ofValue (s:=Builtin.append_ #[t,t'] o.type #[ρ s,ρ x]) ?_ fun w hw=>h.run hw hd ⟨_,cE⟩ hi pG hin ov
    simp only[execOp,hop,resolve,hc,hx,ht,invoke,builtin]
    simp[bind,Sem.bind];rfl
   ·exact h
  ·rename_i hc
   split at h
   ·rename_i m key t t' hx ht
    have hx:=tG hx
    have ht:=tG ht
    split at h<;>try exact h.elim
    rename_i kt e hd
    split at h<;>try exact h.elim
    rename_i kd sZ
    cases hp:plainKey kd<;>simp only[hp,cond_true,cond_false]at h
    ·cases me:bM kd<;>simp only[me,cond_true,cond_false]at h
     ·exact h
     ·refine jg.ofValue (s:=Builtin.delete_ #[t,t'] o.type #[ρ m,ρ key]) ?_ fun w hw=>?_
      ·simp only[execOp,hop,resolve,hc,hx,ht,invoke,builtin]
       simp[bind,Sem.bind];rfl
      ·obtain⟨w',H',hr,ho,hk⟩:=h.run (P:=P) hw (as:=#[t,t']) (ty:=o.type) rfl hd sZ me
       exact⟨_,w',H',hr,ho,hk⟩
    ·refine jg.ofValue (s:=Builtin.delete_ #[t,t'] o.type #[ρ m,ρ key]) ?_ fun w hw=>?_
     ·simp only[execOp,hop,resolve,hc,hx,ht,invoke,builtin]
      simp[bind,Sem.bind];rfl
     ·obtain⟨w',H',hr,ho,hk⟩:=h.run (P:=P) hw (as:=#[t,t']) (ty:=o.type) rfl hd sZ hp
      exact⟨_,w',H',hr,ho,hk⟩
   ·exact h
  ·exact h
 all_goals exact h
end
end Go.Sx
namespace Go.Sx
open Go
section
variable {P:Program} {g:Gh} {ds:List Deferred}
def om:Op→Bool
 | .move _| .assign _| .pick .. | .load .. | .nilCheck _| .binOp .. | .unOp .. | .convert .. | .fieldAddr .. | .field .. | .indexAddr .. | .index .. | .slice .. | .extract .. | .lookup .. | .makeFunc .. | .build .. | .makeInterface ..
 | .typeAssert .. =>true
 | .call c=>match c.callee with
  | .builtin .len| .builtin .cap| .builtin .min| .builtin .max=>true
  |_=>false
 |_=>false
def Hy(P:Program)(g:Gh)(f:FuncId)(args:Array Value)(H:Hp)(k:Value→Prop):Prop:=
 ∃v,bG P g f args H (fun e H'=>e=.returned v∧H'=H)∧k v
def M6(P:Program)(g:Gh)(o:Oper)(ρ:Operand→Value)(H:Hp)(k:Value→Prop):Prop:=
 match o.op with
 | .call c=>match c.callee with
  | .value (.func f)=>cond (aS P f) (Hy P g f (c.args.toList.map ρ).toArray H k) False
  | .value x=>∃f first captured,ρ x=.func (.func f) first captured∧aS P f=true∧Hy P g f (first++(c.args.toList.map ρ).toArray++captured) H k
  |_=>False
 |_=>False
def bI:Option (Nat×Bool)→Option (Nat×Bool)→Bool
 |none,none=>true
 |some (i,a),some (j,b)=>Nat.beq i j&& (a==b)
 |_,_=>false
theorem fi{x y:Option (Nat×Bool)}(h:bI x y=true):x=y:=by
 cases x with
 |none=>cases y<;>simp_all[bI]
 |some a=>
  obtain⟨i,a⟩:=a
  cases y with
  |none=>simp[bI]at h
  |some b=>
   obtain⟨j,b⟩:=b
   simp only[bI,Bool.and_eq_true,beq_iff_eq]at h
   rw[Nat.eq_of_beq_eq_true h.1,h.2]
def ei(cur:Option (Nat×Bool)):List Oper→List Oper
 | []=>[]
 |o::r=>cond (bI o.guard cur) [] (o::ei cur r)
def fe(cur:Option (Nat×Bool)):List Oper→List Oper
 | []=>[]
 |o::r=>cond (bI o.guard cur) (o::r) (fe cur r)
theorem mP(cur:Option (Nat×Bool))(l:List Oper):ei cur l++fe cur l=l:=by
 induction l with
 |nil=>rfl
 |cons o r ih=>simp only[ei,fe];cases bI o.guard cur<;>simp[ih]
def mQ:List Oper→Fr→Fr
 | [],fr=>fr
 |o::r,fr=>mQ r (bc fr o.dst undef)
def aX:List Oper→Nat→Bool
 | [],_=>false
 |o::r,s=>(match o.dst with|some d=>Nat.beq s d|none=>false)||aX r s
def eU(n:Nat):List Oper→Bool
 | []=>true
 |o::r=>cD n o.dst&&eU n r
def rL(G:List Oper)(gs fr:Fr):Fr:=fun s=>cond (aX G s) (gs s) (fr s)
def kz(p:Oper)(fr:Fr):Value:=
 match p.op with
 | .pick c a b=>match ev fr c with
  | .bool t=>cond t (ev fr a) (ev fr b)
  |_=>undef
 |_=>undef
def mC(p:Oper):Bool:=match p.op with| .pick .. =>true|_=>false
def cK(ops:Array Oper)(j:Nat):Option Nat:=match ops[j]? with|some oj=>oj.dst|none=>none
def iF(ops:Array Oper)(s:Nat)(want:Bool):List Nat→List Oper→Bool
 |_,[]=>true
 |seen,o::r=>
  (match o.guard with
  |none=>false
  |some (j,w)=>match cK ops j with
   |none=>false
   |some t=>(Nat.beq t s&& (w==want))||seen.any (Nat.beq t)) &&
  iF ops s want (match o.dst with|some d=>d::seen|none=>seen) r
def c7(v:Value)(want:Bool)(inner els k:Bool→Prop):Prop:=∃a t:Bool,v=.bool a∧(a=want→inner t)∧(a= !want→els t)∧k t
def Split(v:Value)(want:Bool)(k1 k2:Prop):Prop:=∃a:Bool,v=.bool a∧(a=want→k1)∧(a= !want→k2)
def gB:List (Nat×Bool)→Nat→Option Bool
 | [],_=>none
 |(t,b)::r,s=>cond (Nat.beq t s) (some b) (gB r s)
def ik:List (Nat×Bool)→Option Nat→List (Nat×Bool)
 |kn,none=>kn
 | [],some _=>[]
 |(t,b)::r,some d=>cond (Nat.beq t d) (ik r (some d)) ((t,b)::ik r (some d))
def gW:List (Nat×Bool)→List Oper→List (Nat×Bool)
 |kn,[]=>kn
 |kn,o::r=>gW (ik kn o.dst) r
def lu(kn:List (Nat×Bool)):Operand→Option Bool
 | .const (.bool b)=>some b
 | .tmp t=>gB kn t
 |_=>none
def Ic(kn:List (Nat×Bool))(o:Oper):Option Bool:=
 match o.op with
 | .move x=>lu kn x
 | .assign x=>lu kn x
 | .pick c a b=>match lu kn c with
  |some true=>lu kn a
  |some false=>lu kn b
  |none=>none
 |_=>none
def Ib(kn:List (Nat×Bool))(o:Oper):List (Nat×Bool):=
 match Ic kn o,o.dst with
 |some b,some d=>(d,b)::ik kn (some d)
 |_,d=>ik kn d
def eY(kn:List (Nat×Bool))(fr:Fr):Prop:=∀s b,gB kn s=some b→fr s=.bool b
theorem eY.nil(fr:Fr):eY [] fr:=fun s b h=>by simp[gB]at h
theorem qi{kn:List (Nat×Bool)}{d s:Nat}{b:Bool}(h:gB (ik kn (some d)) s=some b):s≠d∧gB kn s=some b:=by
 induction kn with
 |nil=>simp[ik,gB]at h
 |cons x r ih=>
  obtain⟨t,c⟩:=x
  simp only[ik]at h
  cases hb:Nat.beq t d<;>simp only[hb,cond_true,cond_false]at h
  ·simp only[gB]at h⊢
   cases hs:Nat.beq t s<;>simp only[hs,cond_true,cond_false]at h⊢
   ·exact ih h
   ·refine⟨fun e=>?_,h⟩
    have:=Nat.eq_of_beq_eq_true hs
    subst this;subst e;simp at hb
  ·have h':=ih h
   refine⟨h'.1,?_⟩
   simp only[gB]
   have:=Nat.eq_of_beq_eq_true hb
   subst this
   cases hs:Nat.beq t s
   ·exact h'.2
   ·exact absurd (Nat.eq_of_beq_eq_true hs).symm h'.1
theorem eY.del{kn:List (Nat×Bool)}{fr:Fr}(h:eY kn fr)(d:Option Nat)(v:Value):eY (ik kn d) (bc fr d v):=by
 cases d with
 |none=>cases kn<;>exact h
 |some d=>
  intro s b hs
  obtain⟨h1,h2⟩:=qi hs
  simp only[bc]
  cases hb:Nat.beq s d
  ·exact h s b h2
  ·exact absurd (Nat.eq_of_beq_eq_true hb) h1
theorem eY.put{kn:List (Nat×Bool)}{fr:Fr}(h:eY kn fr){s:Nat}{b:Bool}(hs:fr s=.bool b):eY ((s,b)::kn) fr:=by
 intro t c ht
 simp only[gB]at ht
 cases hb:Nat.beq s t<;>simp only[hb,cond_true,cond_false]at ht
 ·exact h t c ht
 ·have:=Nat.eq_of_beq_eq_true hb;subst this;simp only[Option.some.injEq]at ht;subst ht;exact hs
theorem gA{kn:List (Nat×Bool)}{fr:Fr}(h:eY kn fr){x:Operand}{b:Bool}(hx:lu kn x=some b):ev fr x=.bool b:=by
 cases x with
 |tmp t=>exact h t b hx
 |const v=>cases v<;>simp[lu]at hx;subst hx;rfl
 |global g=>simp[lu]at hx
 |func f=>simp[lu]at hx
theorem Fl{kn:List (Nat×Bool)}{fr:Fr}(h:eY kn fr){o:Oper}{v:Value}(hv:valOf o (ev fr) v){b:Bool}(hb:Ic kn o=some b):v=.bool b:=by
 unfold Ic at hb
 unfold valOf at hv
 split at hb
 ·rename_i x hop;rw[hop]at hv;exact hv.trans (gA h hb)
 ·rename_i x hop;rw[hop]at hv;exact hv.trans (gA h hb)
 ·rename_i c a b' hop
  rw[hop]at hv
  split at hb
  ·rename_i hc;rw[hv _ (gA h hc)];exact gA h hb
  ·rename_i hc;rw[hv _ (gA h hc)];exact gA h hb
  ·simp at hb
 ·simp at hb
theorem eY.up{kn:List (Nat×Bool)}{fr:Fr}(h:eY kn fr){o:Oper}{v:Value}(hv:valOf o (ev fr) v):eY (Ib kn o) (bc fr o.dst v):=by
 unfold Ib
 split
 ·rename_i b d hb hd
  rw[hd]
  exact(h.del (some d) v).put (by simp[bc,Fl h hv hb])
 ·exact h.del _ _
theorem eY.LA{kn:List (Nat×Bool)}{fr fr':Fr}:∀(l:List Oper),eY kn fr→(∀s,aX l s=false→fr' s=fr s)→eY (gW kn l) fr':=by
 intro l
 have key:∀(l:List Oper) (kn:List (Nat×Bool)) (s:Nat) (b:Bool),gB (gW kn l) s=some b→aX l s=false∧gB kn s=some b:=by
  intro l
  induction l with
  |nil=>intro kn s b h;exact⟨rfl,h⟩
  |cons o r ih=>
   intro kn s b h
   simp only[gW]at h
   obtain⟨h1,h2⟩:=ih _ s b h
   simp only[aX,h1,Bool.or_false]
   cases hd:o.dst with
   |none=>rw[hd]at h2;exact⟨rfl,by cases kn<;>exact h2⟩
   |some d=>
    rw[hd]at h2
    obtain⟨h3,h4⟩:=qi h2
    refine⟨?_,h4⟩
    cases hb:Nat.beq s d
    ·exact hb
    ·exact absurd (Nat.eq_of_beq_eq_true hb) h3
 intro h ho s b hs
 obtain⟨h1,h2⟩:=key l kn s b hs
 rw[ho s h1];exact h s b h2
def cM(P:Program)(g:Gh)(n:Nat)(ops:Array Oper)(gq:Bool):Nat→Bool→Option (Nat×Bool)→List (Nat×Bool)→List Oper→Fr→Hp→(List (Nat×Bool)→Fr→Hp→Prop)→(List PanicEntry→Hp→Prop)→Prop
 |0,_,_,_,_,_,_,_,_=>False
 |_+1,_,_,kn,[],fr,H,K,_=>K kn fr H
 |f+1,q,cur,kn,o::r,fr,H,K,KP=>
  cond (bI o.guard cur)
   (cond (cD n o.dst)
    (cond (om o.op) (tT P g o (ev fr) H fun v=>cM P g n ops gq f q cur (Ib kn o) r (bc fr o.dst v) H K KP)
     (cond q (M6 P g o (ev fr) H fun v=>cM P g n ops gq f q cur (ik kn o.dst) r (bc fr o.dst v) H K KP)
      (D4 P g o (ev fr) H (fun v H'=>cM P g n ops gq f q cur (ik kn o.dst) r (bc fr o.dst v) H' K KP) KP))) False)
   (match o.guard with
   |none=>False
   |some (j,want)=>
    match cK ops j with
    |none=>False
    |some s=>
     cond (cD n (some s) &&eU n (ei cur (o::r)) && !aX (ei cur (o::r)) s&&iF ops s want [] (ei cur (o::r)))
     (match gB kn s with
     |some b=>cond (b==want)
       (cM P g n ops gq f q o.guard kn (ei cur (o::r)) fr H (fun kN fr' H'=>cM P g n ops gq f q cur kN (fe cur (o::r)) fr' H' K KP) KP)
       (cM P g n ops gq f q cur (gW kn (ei cur (o::r))) (fe cur (o::r)) (mQ (ei cur (o::r)) fr) H K KP)
     |none=>
     cond (q||gq)
      (match fe cur (o::r)with
      | []=>False
      |p::r'=>
       cond (mC p&&cD n p.dst)
       (c7 (fr s) want
        (fun t=>cM P g n ops gq f true o.guard ((s,want)::kn) (ei cur (o::r)) (bc fr (some s) (.bool want)) H (fun _ fr' H'=>H'=H∧kz p fr'=.bool t) (fun _ _=>False))
        (fun t=>kz p (mQ (ei cur (o::r)) (bc fr (some s) (.bool !want)))=.bool t)
        (fun t=>∀gs,cM P g n ops gq f q cur (ik (gW kn (ei cur (o::r))) p.dst) r' (bc (rL (ei cur (o::r)) gs fr) p.dst (.bool t)) H K KP)) False)
      (Split (fr s) want
       (cM P g n ops gq f q o.guard ((s,want)::kn) (ei cur (o::r)) (bc fr (some s) (.bool want)) H (fun kN fr' H'=>cM P g n ops gq f q cur kN (fe cur (o::r)) fr' H' K KP) KP)
       (cM P g n ops gq f q cur ((s, !want)::gW kn (ei cur (o::r))) (fe cur (o::r)) (mQ (ei cur (o::r)) (bc fr (some s) (.bool !want))) H K KP))) False)
theorem gm{fr:Fr}{s:Nat}{v:Value}(h:fr s=v):bc fr (some s) v=fr:=by
 funext x
 simp only[bc]
 cases hb:Nat.beq x s
 ·rfl
 ·have:=Nat.eq_of_beq_eq_true hb;subst this;simp[h]
theorem dr{fr:Fr}{d:Option Nat}{v:Value}{s:Nat}(h:aX [({(default:Oper)with dst:=d})] s=false):bc fr d v s=fr s:=by
 cases d with
 |none=>rfl
 |some d=>simp only[aX,Bool.or_false]at h;simp only[bc,h,cond_false]
theorem cm{o:Oper}{r:List Oper}{s:Nat}:aX (o::r) s=(aX [({(default:Oper)with dst:=o.dst})] s||aX r s):=by
 simp[aX]
theorem bA{a b:List Oper}{s:Nat}:aX (a++b) s=(aX a s||aX b s):=by
 induction a with
 |nil=>simp[aX]
 |cons o r ih=>simp only[List.cons_append,aX,ih,Bool.or_assoc]
def cG(l:List Oper)(fr fr':Fr):Prop:=∀s,aX l s=false→fr' s=fr s
def gI(ops:Array Oper)(cur:Option (Nat×Bool))(l:List Oper)(fr:Fr):Prop:=
 match cur with
 |none=>True
 |some (j,want)=>∃s,cK ops j=some s∧fr s=.bool want∧aX l s=false
theorem gI.tail{ops:Array Oper}{cur:Option (Nat×Bool)}{o:Oper}{r:List Oper}{fr fr':Fr}(h:gI ops cur (o::r) fr)(he:∀s,aX [({(default:Oper)with dst:=o.dst})] s=false→fr' s=fr s):gI ops cur r fr':=by
 unfold gI at*
 split
 ·trivial
 ·obtain⟨s,h1,h2,h3⟩:=h
  rw[cm,Bool.or_eq_false_iff]at h3
  exact⟨s,h1,(he s h3.1).trans h2,h3.2⟩
theorem gM{n:Nat}{ops:Array Oper}{a:Act}{fr:Fr}(h:bH ds n a fr){j s:Nat}(hs:cK ops j=some s):yielded ops a.tmps j=match fr s with| .bool b=>some b|_=>none:=by
 unfold cK at hs
 split at hs
 ·rename_i oj hj
  have hg:=h.get s
  rw[Array.getD_eq_getD_getElem?]at hg
  simp only[yielded,hj,Option.bind_some,hs]
  cases ht:a.tmps[s]? with
  |none=>rw[ht]at hg;simp only[Option.getD_none]at hg;rw[←hg];rfl
  |some v=>rw[ht]at hg;simp only[Option.getD_some]at hg;rw[←hg];cases v<;>rfl
 ·simp at hs
theorem gI.wanted{n:Nat}{ops:Array Oper}{cur:Option (Nat×Bool)}{l:List Oper}{fr:Fr}(h:gI ops cur l fr){o:Oper}(ho:o.guard=cur){a:Act}(ha:bH ds n a fr):Region.wanted o (yielded ops a.tmps)=true:=by
 unfold gI at h
 unfold Region.wanted
 rw[ho]
 split at h
 ·rfl
 ·obtain⟨s,h1,h2,_⟩:=h
  simp only[gM ha h1,h2,beq_self_eq_true]
theorem kx{p:Oper}{fr:Fr}{t:Bool}(hp:mC p=true)(h:kz p fr=.bool t)(w:World):(execOp (ev fr) p).run P w=.ok (.value (.bool t)) w:=by
 unfold mC at hp
 split at hp<;>try (simp at hp;done)
 rename_i c a b hop
 simp only[kz,hop]at h
 split at h
 ·rename_i t' hc
  simp only[execOp,hop,hc,asBool]
  cases t'<;>simp only[cond_true,cond_false]at h<;>simp[h]
 ·simp[undef]at h
theorem jm{n:Nat}{ops:Array Oper}{Q:Exit→Act→World→Prop}{s:Nat}{want:Bool}{w:World}{rest:List Oper}:∀(l:List Oper) (seen:List Nat) (fr:Fr) (a:Act),eU n l=true→aX l s=false→iF ops s want seen l=true→
  fr s=.bool (!want)→(∀t∈seen,fr t=undef)→bH ds n a fr→(∀a',bH ds n a' (mQ l fr)→wpList P ops Q rest a' w)→wpList P ops Q (l++rest) a w
 | [],_,fr,a,_,_,_,_,_,ha,hk=>hk a ha
 |o::r,seen,fr,a,hd,hi,hs,hf,oq,ha,hk=>by
  simp only[eU,Bool.and_eq_true]at hd
  rw[cm,Bool.or_eq_false_iff]at hi
  simp only[iF,Bool.and_eq_true]at hs
  obtain⟨sY,pz⟩:=hs
  have Ku:Region.wanted o (yielded ops a.tmps)=false:=by
   unfold Region.wanted
   split at sY
   ·simp at sY
   ·rename_i j w' hg
    rw[hg]
    split at sY
    ·simp at sY
    ·rename_i t ht
     simp only[gM ha ht]
     simp only[Bool.or_eq_true,Bool.and_eq_true,beq_iff_eq]at sY
     rcases sY with⟨h1,rfl⟩|h1
     ·have:=Nat.eq_of_beq_eq_true h1;subst this
      rw[hf];cases w'<;>rfl
     ·obtain⟨u,hu,hb⟩:=List.any_eq_true.1 h1
      have:=Nat.eq_of_beq_eq_true hb;subst this
      rw[oq _ hu];rfl
  simp only[List.cons_append,wpList,Ku,Bool.false_eq_true,if_false]
  refine jm r _ (bc fr o.dst undef) _ hd.2 hi.2 pz ?_ ?_ (ha.put hd.1 undef) (fun a' h'=>hk a' h')
  ·rw[dr hi.1,hf]
  ·intro t ht
   cases CJ:o.dst with
   |none=>rw[CJ]at ht;exact oq t ht
   |some d=>
    rw[CJ]at ht
    simp only[bc]
    cases hb:Nat.beq t d
    ·simp only[cond_false]
     rcases List.mem_cons.1 ht with rfl|ht
     ·simp at hb
     ·exact oq t ht
    ·rfl
theorem j8{n:Nat}{ops:Array Oper}{C:World→Prop}{Q:Act→Prop}{s:Nat}{want:Bool}{rest:List Oper}:∀(l:List Oper) (seen:List Nat) (fr:Fr) (a:Act),eU n l=true→aX l s=false→iF ops s want seen l=true→
  fr s=.bool (!want)→(∀t∈seen,fr t=undef)→bH ds n a fr→(∀a',bH ds n a' (mQ l fr)→wpQuiet P ops C Q rest a')→wpQuiet P ops C Q (l++rest) a
 | [],_,fr,a,_,_,_,_,_,ha,hk=>hk a ha
 |o::r,seen,fr,a,hd,hi,hs,hf,oq,ha,hk=>by
  simp only[eU,Bool.and_eq_true]at hd
  rw[cm,Bool.or_eq_false_iff]at hi
  simp only[iF,Bool.and_eq_true]at hs
  obtain⟨sY,pz⟩:=hs
  have Ku:Region.wanted o (yielded ops a.tmps)=false:=by
   unfold Region.wanted
   split at sY
   ·simp at sY
   ·rename_i j w' hg
    rw[hg]
    split at sY
    ·simp at sY
    ·rename_i t ht
     simp only[gM ha ht]
     simp only[Bool.or_eq_true,Bool.and_eq_true,beq_iff_eq]at sY
     rcases sY with⟨h1,rfl⟩|h1
     ·have:=Nat.eq_of_beq_eq_true h1;subst this
      rw[hf];cases w'<;>rfl
     ·obtain⟨u,hu,hb⟩:=List.any_eq_true.1 h1
      have:=Nat.eq_of_beq_eq_true hb;subst this
      rw[oq _ hu];rfl
  simp only[List.cons_append,wpQuiet,Ku,Bool.false_eq_true,if_false]
  refine j8 r _ (bc fr o.dst undef) _ hd.2 hi.2 pz ?_ ?_ (ha.put hd.1 undef) (fun a' h'=>hk a' h')
  ·rw[dr hi.1,hf]
  ·intro t ht
   cases CJ:o.dst with
   |none=>rw[CJ]at ht;exact oq t ht
   |some d=>
    rw[CJ]at ht
    simp only[bc]
    cases hb:Nat.beq t d
    ·simp only[cond_false]
     rcases List.mem_cons.1 ht with rfl|ht
     ·simp at hb
     ·exact oq t ht
    ·rfl
theorem bU:∀(l:List Oper) (fr:Fr),cG l fr (mQ l fr)
 | [],fr=>fun s _=>rfl
 |o::r,fr=>fun s hs=>by
  rw[cm,Bool.or_eq_false_iff]at hs
  rw[mQ,bU r _ s hs.2,dr hs.1]
end
end Go.Sx
namespace Go.Sx
open Go
section
variable {P:Program} {g:Gh} {ds:List Deferred}
theorem jE(fr:Fr):∀f,ev fr (.func f)=.func (.func f) #[] #[]:=fun _=>rfl
theorem yd{o:Oper}{fr:Fr}{H:Hp}{k:Value→Prop}(h:M6 P g o (ev fr) H k):
  ∃v f args,(∀w,(execOp (ev fr) o).run P w=.ok (.enter f args) w)∧bG P g f args H (fun e H'=>e=.returned v∧H'=H)∧k v:=by
 unfold M6 at h
 split at h<;>try exact h.elim
 rename_i c hop
 split at h<;>try exact h.elim
 ·rename_i f hc
  cases fo:aS P f<;>simp only[fo,cond_true,cond_false]at h
  obtain⟨v,hs,hk⟩:=h
  rw[mapList]at hs
  refine⟨v,f,_,fun w=>?_,hs,hk⟩
  simp only[execOp,hop,resolve,hc,Deferred.ofValue,jE,invoke]
  show(callFunc f ((#[]++c.args.map (ev fr))++ #[])).run P w=_
  rw[Array.empty_append,Array.append_empty]
  exact cY fo _ w
 ·rename_i x _ hc
  obtain⟨f,first,captured,hf,fo,v,hs,hk⟩:=h
  rw[mapList]at hs
  refine⟨v,f,_,fun w=>?_,hs,hk⟩
  simp only[execOp,hop,resolve,hc,Deferred.ofValue,hf,invoke]
  show(callFunc f (first++c.args.map (ev fr)++captured)).run P w=_
  exact cY fo _ w
theorem jj.upon{o:Oper}{a:Act}{K:Value→Hp→Prop}{KP:List PanicEntry→Hp→Prop}{next:Act→World→Prop}{Q:Exit→Act→World→Prop}{r:Result Next}
 (h:jj P g K KP r)(hn:∀v H' w',Own g H' w'→K v H'→next (a.put o.dst v) w')(hp:∀ch H' w',Own g H' w'→KP ch H'→Q (.panic ch) a w'):o.upon P a next Q r:=by
 cases r with
 |ok n w'=>
  cases n<;>simp only[jj]at h<;>simp only[Oper.upon]
  case value v=>obtain⟨H',ho,hk⟩:=h;exact hn _ _ _ ho hk
  case skip=>obtain⟨H',ho,hk⟩:=h;exact hn _ _ _ ho hk
  case enter f args=>
   refine h.mono fun e w'' ⟨H',ho,hk⟩=>?_
   cases e with
   |returned v=>exact hn _ _ _ ho hk
   |panicked ch=>exact hp _ _ _ ho hk
   |outgrown=>exact hk.elim
 |halt x w'=>
  cases x<;>simp only[jj]at h
  case panic v=>obtain⟨H',ho,hk⟩:=h;exact hp _ _ _ ho hk
theorem cG.refl(l:List Oper)(fr:Fr):cG l fr fr:=fun _ _=>rfl
theorem cG.cons{o:Oper}{r:List Oper}{fr fr':Fr}{v:Value}(h:cG r (bc fr o.dst v) fr'):cG (o::r) fr fr':=fun s hs=>by
 rw[cm,Bool.or_eq_false_iff]at hs
 rw[h s hs.2,dr hs.1]
theorem bK{n:Nat}{ops:Array Oper}{gq:Bool}:∀(f:Nat) (q:Bool) (cur:Option (Nat×Bool)) (kn:List (Nat×Bool)) (l:List Oper) (fr:Fr) (H:Hp) (K:List (Nat×Bool)→Fr→Hp→Prop) (KP:List PanicEntry→Hp→Prop),
  cM P g n ops gq f q cur kn l fr H K KP→gI ops cur l fr→eY kn fr→∀(a:Act) (w:World),bH ds n a fr→Own g H w→∀(rest:List Oper) (Q:Exit→Act→World→Prop),
  (∀a' w' kN fr' H',bH ds n a' fr'→Own g H' w'→cG l fr fr'→eY kN fr'→K kN fr' H'→wpList P ops Q rest a' w')→
  (∀ch a' w' fr' H',bH ds n a' fr'→Own g H' w'→KP ch H'→Q (.panic ch) a' w')→wpList P ops Q (l++rest) a w
 |0,_,_,_,_,_,_,_,_,h=>h.elim
 |f+1,q,cur,kn,[],fr,H,K,KP,h=>fun _ hkn a w ha hw rest Q hk _=>hk a w kn fr H ha hw (cG.refl _ _) hkn h
 |f+1,q,cur,kn,o::r,fr,H,K,KP,h=>by
  intro ny hkn a w ha hw rest Q hk hp
  unfold cM at h
  cases Kl:bI o.guard cur<;>simp only[Kl,cond_true,cond_false]at h
  case true=>
   have hg:=fi Kl
   have jV:=ny.wanted hg ha
   cases hd:cD n o.dst<;>simp only[hd,cond_true,cond_false]at h
   simp only[List.cons_append,wpList,jV,if_true]
   refine .inl ?_
   unfold Oper.wp
   rw[ha.eval]
   cases s4:om o.op<;>simp only[s4,cond_true,cond_false]at h
   case true=>
    obtain⟨v,hk',hr,hv⟩:=jx h
    rw[hr w hw]
    exact bK f q cur _ r _ H K KP hk' (ny.tail fun s hs=>dr hs) (hkn.up hv) _ w (ha.put hd v) hw rest Q (fun a' w' kN fr' H' h1 h2 h3 h5 h4=>hk a' w' kN fr' H' h1 h2 h3.cons h5 h4) hp
   case false=>
    cases q<;>simp only[cond_true,cond_false]at h
    case true=>
     obtain⟨v,f',args,hr,hs,hk'⟩:=yd h
     rw[hr w]
     refine(hs w hw).mono fun e w'' ⟨H',ho,he,hH⟩=>?_
     subst he;subst hH
     exact bK f true cur _ r _ H' K KP hk' (ny.tail fun s hs=>dr hs) (hkn.del _ _) _ w'' (ha.put hd v) ho rest Q (fun a' w' kN fr' H' h1 h2 h3 h5 h4=>hk a' w' kN fr' H' h1 h2 h3.cons h5 h4) hp
    case false=>
     refine(nZ (jE fr) h w hw).upon (fun v H' w' ho hk'=>?_) (fun ch H' w' ho hk'=>hp ch a w' fr H' ha ho hk')
     exact bK f false cur _ r _ H' K KP hk' (ny.tail fun s hs=>dr hs) (hkn.del _ _) _ w' (ha.put hd v) ho rest Q (fun a' w' kN fr' H' h1 h2 h3 h5 h4=>hk a' w' kN fr' H' h1 h2 h3.cons h5 h4) hp
  case false=>
   split at h<;>try exact h.elim
   rename_i j want Jr
   split at h<;>try exact h.elim
   rename_i s gf
   generalize hG:ei cur (o::r)=G at h
   generalize hR:fe cur (o::r)=R at h
   have yA:G++R=o::r:=by rw[←hG,←hR];exact mP _ _
   cases cX:(cD n (some s) &&eU n G&& !aX G s&&iF ops s want [] G)<;>simp only[cX,cond_true,cond_false]at h
   simp only[Bool.and_eq_true,Bool.not_eq_true']at cX
   obtain⟨⟨⟨hds,Jz⟩,A3⟩,GV⟩:=cX
   rw[←yA,List.append_assoc]
   have P6:∀fr',cG G fr fr'→∀s,aX (o::r) s=false→fr' s=fr s:=fun fr' ho s hs=>by
    rw[←yA,bA,Bool.or_eq_false_iff]at hs
    exact ho s hs.1
   have iU:∀fr',cG G fr fr'→gI ops cur R fr':=fun fr' ho=>by
    unfold gI at ny⊢
    split
    ·trivial
    ·obtain⟨t,h1,h2,h3⟩:=ny
     have qt:=h3
     rw[←yA,bA,Bool.or_eq_false_iff]at qt
     exact⟨t,h1,(ho t qt.1).trans h2,qt.2⟩
   have zQ:∀fr',cG G fr fr'→eY (gW kn G) fr':=fun fr' ho=>hkn.LA G ho
   split at h
   ·rename_i b hb
    have kQ:=hkn s b hb
    cases FM:(b==want)<;>simp only[FM,cond_true,cond_false]at h
    ·have jN:b= !want:=by cases b<;>cases want<;>simp_all
     subst jN
     refine jm G [] fr a Jz A3 GV kQ (fun t ht=>by simp at ht) ha fun a' cI=>?_
     refine bK f q cur _ R _ H K KP h (iU _ (bU G fr)) (zQ _ (bU G fr)) a' w cI hw rest Q (fun a2 w2 uE m7 H2 k1 k2 k3 k5 k4=>hk a2 w2 uE m7 H2 k1 k2 ?_ k5 k4) hp
     intro x hx
     have hx':=hx
     rw[←yA,bA,Bool.or_eq_false_iff]at hx'
     rw[k3 x hx'.2,bU G fr x hx'.1]
    ·have jN:b=want:=by cases b<;>cases want<;>simp_all
     subst jN
     refine bK f q o.guard kn G fr H _ KP h ?_ hkn a w ha hw (R++rest) Q ?_ hp
     ·rw[Jr];exact⟨s,gf,kQ,A3⟩
     ·intro a' w' kN fr' H' g1 g2 g3 g5 g4
      refine bK f q cur kN R fr' H' K KP g4 (iU fr' g3) g5 a' w' g1 g2 rest Q (fun a2 w2 uE m7 H2 k1 k2 k3 k5 k4=>hk a2 w2 uE m7 H2 k1 k2 ?_ k5 k4) hp
      intro x hx
      have hx':=hx
      rw[←yA,bA,Bool.or_eq_false_iff]at hx'
      rw[k3 x hx'.2,g3 x hx'.1]
   rename_i Iy
   cases NH:(q||gq)<;>simp only[NH,cond_true,cond_false]at h
   case true=>
    split at h<;>try exact h.elim
    rename_i p r' 
    have NK:bI p.guard cur=true:=by
     have:∀l:List Oper,fe cur l=p::r'→bI p.guard cur=true:=by
      intro l
      induction l with
      |nil=>intro e;simp[fe]at e
      |cons x y ih=>
       intro e
       simp only[fe]at e
       cases hx:bI x.guard cur<;>simp only[hx,cond_true,cond_false]at e
       ·exact ih e
       ·simp only[List.cons.injEq]at e;rw[←e.1];exact hx
     exact this _ hR
    cases hpk:(mC p&&cD n p.dst)<;>simp only[hpk,cond_true,cond_false]at h
    simp only[Bool.and_eq_true]at hpk
    obtain⟨b,t,kQ,h1,h2,h3⟩:=h
    have CG:∀(a':Act) (w':World) (fr':Fr),bH ds n a' fr'→Own g H w'→cG G fr fr'→kz p fr'=.bool t→wpList P ops Q (p::r'++rest) a' w':=by
     intro a' w' fr' cI de ho Im
     have jV:=(iU fr' ho).wanted (fi NK) cI
     simp only[List.cons_append,wpList,jV,if_true]
     refine .inl ?_
     unfold Oper.wp
     rw[cI.eval,kx hpk.1 Im w']
     have CE:rL G fr' fr=fr':=by
      funext x
      simp only[rL]
      cases hx:aX G x
      ·exact(ho x hx).symm
      ·rfl
     have qt:=h3 fr'
     rw[CE]at qt
     refine bK f q cur _ r' _ H K KP qt ((iU fr' ho).tail fun s hs=>dr hs) ((zQ fr' ho).del _ _) _ w' (cI.put hpk.2 _) de rest Q (fun a2 w2 uE m7 H2 g1 g2 g3 g5 g4=>hk a2 w2 uE m7 H2 g1 g2 ?_ g5 g4) hp
     intro x hx
     have hx':=hx
     rw[←yA,bA,Bool.or_eq_false_iff,cm,Bool.or_eq_false_iff]at hx'
     rw[g3 x hx'.2.2,dr hx'.2.1,ho x hx'.1]
    by_cases FM:b=want
    ·subst FM
     have oD:=h1 rfl
     rw[gm kQ]at oD
     refine bK f true o.guard _ G fr H _ _ oD ?_ (hkn.put kQ) a w ha hw (p::r'++rest) Q ?_ ?_
     ·rw[Jr];exact⟨s,gf,kQ,A3⟩
     ·intro a' w' kN fr' H' g1 g2 g3 _ ⟨g4,g5⟩
      subst g4
      exact CG a' w' fr' g1 g2 g3 g5
     ·intro _ _ _ _ _ _ _ h0;exact h0.elim
    ·have jN:b= !want:=by cases b<;>cases want<;>simp_all
     have kE:=h2 jN
     subst jN
     rw[gm kQ]at kE
     refine jm G [] fr a Jz A3 GV kQ (fun t ht=>by simp at ht) ha fun a' cI=>?_
     exact CG a' w _ cI hw (bU G fr) kE
   case false=>
    obtain⟨b,kQ,h1,h2⟩:=h
    by_cases FM:b=want
    ·subst FM
     have oD:=h1 rfl
     rw[gm kQ]at oD
     refine bK f q o.guard _ G fr H _ KP oD ?_ (hkn.put kQ) a w ha hw (R++rest) Q ?_ hp
     ·rw[Jr];exact⟨s,gf,kQ,A3⟩
     ·intro a' w' kN fr' H' g1 g2 g3 g5 g4
      refine bK f q cur kN R fr' H' K KP g4 (iU fr' g3) g5 a' w' g1 g2 rest Q (fun a2 w2 uE m7 H2 k1 k2 k3 k5 k4=>hk a2 w2 uE m7 H2 k1 k2 ?_ k5 k4) hp
      intro x hx
      have hx':=hx
      rw[←yA,bA,Bool.or_eq_false_iff]at hx'
      rw[k3 x hx'.2,g3 x hx'.1]
    ·have jN:b= !want:=by cases b<;>cases want<;>simp_all
     have kE:=h2 jN
     subst jN
     rw[gm kQ]at kE
     refine jm G [] fr a Jz A3 GV kQ (fun t ht=>by simp at ht) ha fun a' cI=>?_
     refine bK f q cur _ R _ H K KP kE (iU _ (bU G fr)) ((zQ _ (bU G fr)).put (by rw[bU G fr s A3,kQ])) a' w cI hw rest Q (fun a2 w2 uE m7 H2 k1 k2 k3 k5 k4=>hk a2 w2 uE m7 H2 k1 k2 ?_ k5 k4) hp
     intro x hx
     have hx':=hx
     rw[←yA,bA,Bool.or_eq_false_iff]at hx'
     rw[k3 x hx'.2,bU G fr x hx'.1]
theorem cr{n:Nat}{ops:Array Oper}{gq:Bool}:∀(f:Nat) (cur:Option (Nat×Bool)) (kn:List (Nat×Bool)) (l:List Oper) (fr:Fr) (H:Hp) (K:List (Nat×Bool)→Fr→Hp→Prop) (KP:List PanicEntry→Hp→Prop),
  cM P g n ops gq f true cur kn l fr H K KP→gI ops cur l fr→eY kn fr→∀(a:Act),bH ds n a fr→∀(rest:List Oper) (Q:Act→Prop),
  (∀a' kN fr',bH ds n a' fr'→cG l fr fr'→eY kN fr'→K kN fr' H→wpQuiet P ops (Own g H) Q rest a')→wpQuiet P ops (Own g H) Q (l++rest) a
 |0,_,_,_,_,_,_,_,h=>h.elim
 |f+1,cur,kn,[],fr,H,K,KP,h=>fun _ hkn a ha rest Q hk=>hk a kn fr ha (cG.refl _ _) hkn h
 |f+1,cur,kn,o::r,fr,H,K,KP,h=>by
  intro ny hkn a ha rest Q hk
  unfold cM at h
  cases Kl:bI o.guard cur<;>simp only[Kl,cond_true,cond_false]at h
  case true=>
   have hg:=fi Kl
   have jV:=ny.wanted hg ha
   cases hd:cD n o.dst<;>simp only[hd,cond_true,cond_false]at h
   simp only[List.cons_append,wpQuiet,jV,if_true]
   cases s4:om o.op<;>simp only[s4,cond_true,cond_false]at h
   case true=>
    obtain⟨v,hk',hr,hv⟩:=jx h
    refine⟨v,fun w hw=>?_,?_⟩
    ·unfold Oper.quietAt
     rw[ha.eval,hr w hw]
     exact⟨rfl,rfl⟩
    ·exact cr f cur _ r _ H K KP hk' (ny.tail fun s hs=>dr hs) (hkn.up hv) _ (ha.put hd v) rest Q (fun a' kN fr' h1 h3 h5 h4=>hk a' kN fr' h1 h3.cons h5 h4)
   case false=>
    obtain⟨v,f',args,hr,hs,hk'⟩:=yd h
    refine⟨v,fun w hw=>?_,?_⟩
    ·unfold Oper.quietAt
     rw[ha.eval,hr w]
     refine⟨rfl,(hs w hw).mono fun e w'' ⟨H',ho,he,hH⟩=>?_⟩
     subst hH
     exact⟨he,ho⟩
    ·exact cr f cur _ r _ H K KP hk' (ny.tail fun s hs=>dr hs) (hkn.del _ _) _ (ha.put hd v) rest Q (fun a' kN fr' h1 h3 h5 h4=>hk a' kN fr' h1 h3.cons h5 h4)
  case false=>
   split at h<;>try exact h.elim
   rename_i j want Jr
   split at h<;>try exact h.elim
   rename_i s gf
   generalize hG:ei cur (o::r)=G at h
   generalize hR:fe cur (o::r)=R at h
   have yA:G++R=o::r:=by rw[←hG,←hR];exact mP _ _
   cases cX:(cD n (some s) &&eU n G&& !aX G s&&iF ops s want [] G)<;>simp only[cX,cond_true,cond_false]at h
   simp only[Bool.and_eq_true,Bool.not_eq_true']at cX
   obtain⟨⟨⟨hds,Jz⟩,A3⟩,GV⟩:=cX
   rw[←yA,List.append_assoc]
   have iU:∀fr',cG G fr fr'→gI ops cur R fr':=fun fr' ho=>by
    unfold gI at ny⊢
    split
    ·trivial
    ·obtain⟨t,h1,h2,h3⟩:=ny
     have qt:=h3
     rw[←yA,bA,Bool.or_eq_false_iff]at qt
     exact⟨t,h1,(ho t qt.1).trans h2,qt.2⟩
   have zQ:∀fr',cG G fr fr'→eY (gW kn G) fr':=fun fr' ho=>hkn.LA G ho
   split at h
   ·rename_i b hb
    have kQ:=hkn s b hb
    cases FM:(b==want)<;>simp only[FM,cond_true,cond_false]at h
    ·have jN:b= !want:=by cases b<;>cases want<;>simp_all
     subst jN
     refine j8 G [] fr a Jz A3 GV kQ (fun t ht=>by simp at ht) ha fun a' cI=>?_
     refine cr f cur _ R _ H K KP h (iU _ (bU G fr)) (zQ _ (bU G fr)) a' cI rest Q (fun a2 uE m7 k1 k3 k5 k4=>hk a2 uE m7 k1 ?_ k5 k4)
     intro x hx
     have hx':=hx
     rw[←yA,bA,Bool.or_eq_false_iff]at hx'
     rw[k3 x hx'.2,bU G fr x hx'.1]
    ·have jN:b=want:=by cases b<;>cases want<;>simp_all
     subst jN
     refine cr f o.guard kn G fr H _ KP h ?_ hkn a ha (R++rest) Q ?_
     ·rw[Jr];exact⟨s,gf,kQ,A3⟩
     ·intro a' kN fr' g1 g3 g5 g4
      refine cr f cur kN R fr' H K KP g4 (iU fr' g3) g5 a' g1 rest Q (fun a2 uE m7 k1 k3 k5 k4=>hk a2 uE m7 k1 ?_ k5 k4)
      intro x hx
      have hx':=hx
      rw[←yA,bA,Bool.or_eq_false_iff]at hx'
      rw[k3 x hx'.2,g3 x hx'.1]
   rename_i Iy
   simp only[Bool.true_or,cond_true]at h
   split at h<;>try exact h.elim
   rename_i p r' 
   have NK:bI p.guard cur=true:=by
    have:∀l:List Oper,fe cur l=p::r'→bI p.guard cur=true:=by
     intro l
     induction l with
     |nil=>intro e;simp[fe]at e
     |cons x y ih=>
      intro e
      simp only[fe]at e
      cases hx:bI x.guard cur<;>simp only[hx,cond_true,cond_false]at e
      ·exact ih e
      ·simp only[List.cons.injEq]at e;rw[←e.1];exact hx
    exact this _ hR
   cases hpk:(mC p&&cD n p.dst)<;>simp only[hpk,cond_true,cond_false]at h
   simp only[Bool.and_eq_true]at hpk
   obtain⟨b,t,kQ,h1,h2,h3⟩:=h
   have CG:∀(a':Act) (fr':Fr),bH ds n a' fr'→cG G fr fr'→kz p fr'=.bool t→wpQuiet P ops (Own g H) Q (p::r'++rest) a':=by
    intro a' fr' cI ho Im
    have jV:=(iU fr' ho).wanted (fi NK) cI
    simp only[List.cons_append,wpQuiet,jV,if_true]
    refine⟨.bool t,fun w hw=>?_,?_⟩
    ·unfold Oper.quietAt
     rw[cI.eval,kx hpk.1 Im w]
     exact⟨rfl,rfl⟩
    have CE:rL G fr' fr=fr':=by
     funext x
     simp only[rL]
     cases hx:aX G x
     ·exact(ho x hx).symm
     ·rfl
    have qt:=h3 fr'
    rw[CE]at qt
    refine cr f cur _ r' _ H K KP qt ((iU fr' ho).tail fun s hs=>dr hs) ((zQ fr' ho).del _ _) _ (cI.put hpk.2 _) rest Q (fun a2 uE m7 g1 g3 g5 g4=>hk a2 uE m7 g1 ?_ g5 g4)
    intro x hx
    have hx':=hx
    rw[←yA,bA,Bool.or_eq_false_iff,cm,Bool.or_eq_false_iff]at hx'
    rw[g3 x hx'.2.2,dr hx'.2.1,ho x hx'.1]
   by_cases FM:b=want
   ·subst FM
    have oD:=h1 rfl
    rw[gm kQ]at oD
    refine cr f o.guard _ G fr H _ _ oD ?_ (hkn.put kQ) a ha (p::r'++rest) Q ?_
    ·rw[Jr];exact⟨s,gf,kQ,A3⟩
    ·intro a' kN fr' g1 g3 _ ⟨_,g5⟩
     exact CG a' fr' g1 g3 g5
   ·have jN:b= !want:=by cases b<;>cases want<;>simp_all
    have kE:=h2 jN
    subst jN
    rw[gm kQ]at kE
    refine j8 G [] fr a Jz A3 GV kQ (fun t ht=>by simp at ht) ha fun a' cI=>?_
    exact CG a' _ cI (bU G fr) kE
end
end Go.Sx
namespace Go.Sx
open Go
section
variable {P:Program} {ops:Array Oper} {Q:Exit→Act→World→Prop} {md:Region.Mode} {S:Nat→World→World→Prop} {S0:World→Prop}
def bT(P:Program)(md:Region.Mode)(ops:Array Oper)(Q:Exit→Act→World→Prop)(S:Nat→World→World→Prop):Nat→Array Bool→Act→World→Prop
 |0,listed,a,w=>Region.ready md ops listed=[]∧Q .normal a w
 |n+1,listed,a,w=>(Region.ready md ops listed=[]→Q .normal a w)∧
  ∀i∈Region.ready md ops listed,wpOp P ops Q i (fun a' w'=>S i w w'∧bT P md ops Q S n (listed.setIfInBounds i true) a' w') a w
theorem bT.any:∀{n:Nat} {listed:Array Bool} {a:Act} {w:World},bT P md ops Q S n listed a w→wpAny P md ops Q n listed a w
 |0,_,_,_,h=>h
 |_+1,_,_,_,h=>⟨h.1,fun i hi=>wpOp_mono (fun _ _ h'=>h'.2.any) (h.2 i hi)⟩
theorem bT.mono{S':Nat→World→World→Prop}(hS:∀j w w',S j w w'→S' j w w'):∀{n:Nat} {listed:Array Bool} {a:Act} {w:World},bT P md ops Q S n listed a w→bT P md ops Q S' n listed a w
 |0,_,_,_,h=>h
 |_+1,_,_,_,h=>⟨h.1,fun i hi=>wpOp_mono (fun _ _ h'=>⟨hS _ _ _ h'.1,h'.2.mono hS⟩) (h.2 i hi)⟩
def BR(md:Region.Mode)(ops:Array Oper)(i j:Nat):Prop:=∀oj,ops[j]? =some oj→∀e∈oj.after,Region.binds md e=true→e.on≠i
def cU(md:Region.Mode)(ops:Array Oper)(listed:Array Bool):Prop:=∀j oj,ops[j]? =some oj→listed.getD j true=true→∀e∈oj.after,Region.binds md e=true→listed.getD e.on true=true
inductive jc(md:Region.Mode)(ops:Array Oper)(i:Nat):Nat→Prop
 |one {j:Nat} {oj:Oper} {e:Edge}:ops[j]? =some oj→e∈oj.after→Region.binds md e=true→e.on=i→jc md ops i j
 |more {j:Nat} {oj:Oper} {e:Edge}:ops[j]? =some oj→e∈oj.after→Region.binds md e=true→jc md ops i e.on→jc md ops i j
theorem rJ{a:Array Bool}{i:Nat}(h:a.getD i false=true):a.getD i true=true:=by
 rw[Array.getD_eq_getD_getElem?]at*
 cases hg:a[i]? with
 |none=>rfl
 |some b=>rw[hg]at h;simpa using h
theorem m6{a:Array Bool}{i k:Nat}(h:a.getD k true=true):(a.setIfInBounds i true).getD k true=true:=by
 by_cases e:i=k
 ·subst e
  rw[Array.getD_eq_getD_getElem?,Array.getElem?_setIfInBounds_self]
  split<;>rfl
 ·rw[getD_set_ne true e];exact h
theorem cU.waits{listed:Array Bool}(hc:cU md ops listed){i j:Nat}(h:jc md ops i j):listed.getD j true=true→listed.getD i true=true:=by
 induction h with
 |one h1 h2 h3 h4=>intro h;rw[←h4];exact hc _ _ h1 h _ h2 h3
 |more h1 h2 h3 _ ih=>intro h;exact ih (hc _ _ h1 h _ h2 h3)
theorem cU.ready{listed:Array Bool}(hc:cU md ops listed){i j:Nat}(hj:j∈Region.ready md ops listed)(h:jc md ops i j):listed.getD i true=true:=by
 obtain⟨_,oj,fc,aD⟩:=mem_ready.1 hj
 cases h with
 |one h1 h2 h3 h4=>rw[fc]at h1;cases h1;rw[←h4];exact rJ (aD _ h2 h3)
 |more h1 h2 h3 h4=>rw[fc]at h1;cases h1;exact hc.waits h4 (rJ (aD _ h2 h3))
theorem cU.step{listed:Array Bool}(hc:cU md ops listed){j:Nat}(hj:j∈Region.ready md ops listed):cU md ops (listed.setIfInBounds j true):=by
 intro k ok hk hl e he hb
 by_cases G0:j=k
 ·subst G0
  obtain⟨_,oj,fc,aD⟩:=mem_ready.1 hj
  rw[hk]at fc;cases fc
  exact m6 (rJ (aD e he hb))
 ·rw[getD_set_ne true G0]at hl
  exact m6 (hc k ok hk hl e he hb)
theorem cU.none(n:Nat)(h:ops.size=n):cU md ops (Array.replicate n false):=by
 intro j oj hj hl
 exfalso
 have hlt:=(Array.getElem?_eq_some_iff.1 hj).1
 rw[Array.getD_eq_getD_getElem?,Array.getElem?_replicate,if_pos (by omega)]at hl
 cases hl
theorem bT.first{i:Nat}{oi:Oper}{v:Value}(hi:ops[i]? =some oi)(hsel:Region.noSelect ops=true)(hQ:∀c a w,Q (.panic c) (a.put oi.dst v) w→Q (.panic c) a w)
 (Mx:∀w,S0 w→S i w w)(hS:∀j oj w w',ops[j]? =some oj→j≠i→¬jc md ops i j→S0 w→S j w w'→S0 w'):∀(n:Nat) (listed:Array Bool) (a:Act) (w:World),cU md ops listed→
   (∀j oj,ops[j]? =some oj→j≠i→listed.getD j true=false→BR md ops i j→oi.apart ops oj=true)→i∈Region.ready md ops listed→YieldsIf P ops S0 oi v a→S0 w→
   bT P md ops Q S n (listed.setIfInBounds i true) (a.put oi.dst v) w→bT P md ops Q S (n+1) listed a w:=by
 have Pm:=Region.noSelect_spec hsel
 intro n
 induction n with
 |zero=>
  intro listed a w hc hfree hr hy h0 h
  refine⟨fun e=>absurd hr (by rw[e];simp),fun j hj=>?_⟩
  by_cases e:j=i
  ·rw[e];exact hy.wpOp hi h0 ⟨Mx _ h0,h⟩
  ·exact absurd (ready_mono hj e) (by rw[h.1];simp)
 |succ n ih=>
  intro listed a w hc hfree hr hy h0 h
  refine⟨fun e=>absurd hr (by rw[e];simp),fun j hj=>?_⟩
  by_cases e:j=i
  ·rw[e];exact hy.wpOp hi h0 ⟨Mx _ h0,h⟩
  ·obtain⟨hun,oj,fc,aD⟩:=mem_ready.1 hj
   have hno:BR md ops i j:=fun o ho x hx hb he=>by
    rw[fc]at ho;cases ho
    have h1:=aD x hx hb
    have h2:=(mem_ready.1 hr).1
    rw[he]at h1
    rw[Array.getD_eq_getD_getElem?]at h1 h2
    cases hg:listed[i]? with
    |none=>rw[hg]at h1;simp at h1
    |some y=>rw[hg]at h1 h2;simp at h1 h2;rw[h2]at h1;cases h1
   have Ku:¬jc md ops i j:=fun hw=>by
    have h1:=hc.ready hj hw
    rw[(mem_ready.1 hr).1]at h1;cases h1
   refine wpOp_mono ?_ (wpOp_putIf fc (hfree j oj fc e hun hno) (fun cs b=>Pm i oi cs b hi) (fun cs b=>Pm j oj cs b fc) hQ hy (h.2 j (ready_mono hj e)))
   rintro a' w' ⟨hy',hs',fb⟩
   refine⟨hs',ih _ _ _ (hc.step hj) (fun k ok hk IA Fu Cq=>hfree k ok hk IA ?_ Cq) (ready_mono hr (Ne.symm e)) hy' (hS j oj w w' fc e Ku h0 hs') (by rw[Array.setIfInBounds_comm _ _ e];exact fb)⟩
   by_cases G0:j=k
   ·rw[←G0];exact hun
   ·rw[←Fu,getD_set_ne true G0]
theorem bT.take{i:Nat}{oi:Oper}{v:Value}{n:Nat}{listed:Array Bool}{a:Act}{w:World}(hc:cU md ops listed)(hi:ops[i]? =some oi)(hsel:Region.noSelect ops=true)(hf:Region.free md ops listed i=true)
 (hr:(Region.ready md ops listed).contains i=true)(hQ:∀c a w,Q (.panic c) (a.put oi.dst v) w→Q (.panic c) a w)(Mx:∀w,S0 w→S i w w)(hS:∀j oj w w',ops[j]? =some oj→j≠i→¬jc md ops i j→S0 w→S j w w'→S0 w')
 (hy:YieldsIf P ops S0 oi v a)(h0:S0 w)(h:bT P md ops Q S n (listed.setIfInBounds i true) (a.put oi.dst v) w):bT P md ops Q S (n+1) listed a w:=
 bT.first hi hsel hQ Mx hS n listed a w hc (fun j oj h1 h2 h3 h4=>Region.free_spec hi hf j oj h1 h2 h3 (h4 oj h1)) (by simpa using hr) hy h0 h
theorem bT.all{rs:List Nat}{n:Nat}{listed:Array Bool}{a:Act}{w:World}(hr:Region.ready md ops listed=rs)(hne:rs≠[])
 (h:∀i∈rs,wpOp P ops Q i (fun a' w'=>S i w w'∧bT P md ops Q S n (listed.setIfInBounds i true) a' w') a w):bT P md ops Q S (n+1) listed a w:=
 ⟨fun h0=>absurd (hr▸h0) hne,hr▸h⟩
theorem bT.done{listed:Array Bool}{a:Act}{w:World}(hr:Region.ready md ops listed=[])(h:Q .normal a w):∀n,bT P md ops Q S n listed a w
 |0=>⟨hr,h⟩
 |_+1=>⟨fun _=>h,by rw[hr];simp⟩
def M7(j:Oper)(i:Nat):Bool:=j.after.toList.any fun e=>Nat.beq e.on i&&Region.binds .any e
def Kf(P:Program):Op→Bool
 | .move _| .assign _| .pick .. | .nilCheck _| .fieldAddr .. | .field .. | .indexAddr .. | .unOp .. =>true
 | .slice t _ _ _ none=>match P.underlying t with|some (.slice _)=>true|_=>false
 | .binOp _ t _ _ _=>match P.underlying t with
  |some d=>match rQ d with| .other=>false|_=>true
  |none=>true
 |_=>false
theorem sF{g:Gh}{o:Oper}(h:Kf P o.op=true)(ρ:Operand→Value)(H H':Hp)(k:Value→Prop):tT P g o ρ H k=tT P g o ρ H' k:=by
 obtain⟨d,op,t,p,a,gd⟩:=o
 cases op<;>first|rfl|(simp only[Kf]at h;first|cases h|skip)
 case binOp op t x y z=>
  simp only[tT]
  cases hu:P.underlying t with
  |none=>rfl
  |some d=>
   simp only[hu]at h
   cases hb:rQ d<;>simp only[hb]at h⊢
   cases h
 case slice t x lo hi m=>
  cases m with
  |none=>
   simp only[tT]
   cases hu:P.underlying t with
   |none=>simp[hu]at h
   |some d=>cases d<;>first|rfl|(exfalso;simp[hu]at h)
  |some m=>cases h
def pE(P:Program)(o:Op):Bool:=om o&& !Kf P o
def yf(P:Program)(ops:Array Oper)(j:Nat):Bool:=match ops[j]? with
 |some oj=>(List.range ops.size).any fun i=>match ops[i]? with|some oi=>pE P oi.op&& !M7 oj i&& !Nat.beq i j|none=>false
 |none=>true
def j5(ops:Array Oper)(i:Nat):Nat→Nat→Bool
 |0,_=>false
 |n+1,j=>match ops[j]? with
  |some oj=>oj.after.toList.any fun e=>Region.binds .any e&& (Nat.beq e.on i||j5 ops i n e.on)
  |none=>false
theorem mN{i:Nat}:∀{n j:Nat},j5 ops i n j=true→jc .any ops i j
 |0,j,h=>by simp[j5]at h
 |n+1,j,h=>by
  unfold j5 at h
  split at h
  ·rename_i oj fc
   obtain⟨e,he,h2⟩:=List.any_eq_true.1 h
   simp only[Bool.and_eq_true,Bool.or_eq_true]at h2
   rcases h2.2 with h3|h3
   ·exact .one fc (Array.mem_toList_iff.1 he) h2.1 (Nat.eq_of_beq_eq_true h3)
   ·exact .more fc (Array.mem_toList_iff.1 he) h2.1 (mN h3)
  ·cases h
def mU(P:Program)(ops:Array Oper)(j:Nat):Bool:=(List.range ops.size).any fun i=>match ops[i]? with|some oi=>pE P oi.op&& !j5 ops i 6 j&& !Nat.beq i j|none=>false
def y2(P:Program)(g:Gh)(R:Hp)(ops:Array Oper)(j:Nat)(w w':World):Prop:=∀oj,ops[j]? =some oj→(om oj.op=true→w'=w)∧(om oj.op=false→Own g [] w'∧(mU P ops j=true→Own g R w→Own g R w'))
def kL(P:Program)(g:Gh)(Xs:List Hp)(ops:Array Oper)(j:Nat)(w w':World):Prop:=∀X∈Xs,y2 P g X ops j w w'
theorem gQ{i j:Nat}{oi:Oper}(hi:ops[i]? =some oi)(hp:pE P oi.op=true)(hne:j≠i)(h:¬jc .any ops i j):mU P ops j=true:=by
 unfold mU
 rw[List.any_eq_true]
 refine⟨i,List.mem_range.2 (Array.getElem?_eq_some_iff.1 hi).1,?_⟩
 simp only[hi,hp,Bool.true_and,Bool.and_eq_true,Bool.not_eq_true']
 refine⟨?_,?_⟩
 ·cases hb:j5 ops i 6 j
  ·rfl
  ·exact absurd (mN hb) h
 ·cases hb:Nat.beq i j
  ·rfl
  ·exact absurd (Nat.eq_of_beq_eq_true hb).symm hne
theorem n6{j:Nat}(h:mU P ops j=true):yf P ops j=true:=by
 unfold mU at h
 obtain⟨i,hi,h2⟩:=List.any_eq_true.1 h
 unfold yf
 split
 ·rename_i oj fc
  refine List.any_eq_true.2 ⟨i,hi,?_⟩
  split at h2
  ·rename_i oi jB
   simp only[Bool.and_eq_true,Bool.not_eq_true']at h2⊢
   refine⟨⟨h2.1.1,?_⟩,h2.2⟩
   cases hb:M7 oj i
   ·rfl
   ·have h3:=h2.1.2
    unfold j5 at h3
    simp only[fc]at h3
    unfold M7 at hb
    obtain⟨e,he,h4⟩:=List.any_eq_true.1 hb
    rw[←Bool.not_eq_true,List.any_eq_true]at h3
    refine absurd ⟨e,he,?_⟩ h3
    simp only[Bool.and_eq_true,Bool.or_eq_true]at h4⊢
    exact⟨h4.2,.inl h4.1⟩
  ·cases h2
 ·rfl
end
end Go.Sx
namespace Go.Sx
open Go
section
variable {P:Program} {g:Gh} {ds:List Deferred}
def y6(b:Bool)(p q:Prop):Prop:=cond b (p∧q) q
theorem y6.of{b:Bool}{p q:Prop}(h:y6 b p q):(b=true→p)∧q:=by
  cases b
  · exact⟨fun e=>(by cases e),h⟩
  · exact⟨fun _=>h.1,h.2⟩
def BT(P:Program)(ops:Array Oper)(T:List Nat)(i:Nat):Bool:=cond T.isEmpty (yf P ops i) (mU P ops i)
theorem BS{ops:Array Oper}{T:List Nat}{i:Nat}(h:mU P ops i=true):BT P ops T i=true:=by
  unfold BT
  cases T.isEmpty
  · exact h
  · exact n6 h
def An(P:Program)(g:Gh)(n:Nat)(ops:Array Oper)(R:Hp)(K:Fr→Hp→Prop):List Nat→Array Bool→Fr→Hp→Prop
  | [],listed,fr,H=>cond (Region.ready .any ops listed).isEmpty (K fr H) False
  |i::r,listed,fr,H=>
    match ops[i]? with
    |none=>False
    |some o=>
      cond (cD n o.dst&&o.guard.isNone)
        (cond (om o.op)
          (cond (Region.free .any ops listed i&& (Region.ready .any ops listed).contains i)
            (tT P g o (ev fr) R fun v=>An P g n ops R K r (listed.setIfInBounds i true) (bc fr o.dst v) H) False)
          (cond (Region.ready .any ops listed==[i])
            (D4 P g o (ev fr) H (fun v H'=>y6 (yf P ops i) (aR H' R) (An P g n ops R K r (listed.setIfInBounds i true) (bc fr o.dst v) H')) (fun _ _=>False)) False)) False
def l8(Q:Exit→Act→World→Prop):Exit→Act→World→Prop
  | .panic _,_,_=>False
  |e,a,w=>Q e a w
theorem fW{o:Oper}(h:o.guard.isNone=true)(y:Nat→Option Bool):Region.wanted o y=true:=by
  unfold Region.wanted
  cases hg:o.guard<;>simp_all
theorem Own.bu{g:Gh}{H:Hp}{w:World}(h:Own g H w):Own g [] w:=Own.right (A:=H) (B:=[]) (by simpa using h)
theorem dD{listed:Array Bool}{i k:Nat}(hun:listed.getD i true=false)(h:(listed.setIfInBounds i true).getD k true=false):listed.getD k true=false:=by
  by_cases e:i=k
  · rw[←e];exact hun
  · rwa [getD_set_ne true e]at h
theorem lR{n:Nat}{ops:Array Oper}{R:Hp}{K:Fr→Hp→Prop}{Q:Exit→Act→World→Prop}(hs:Region.noSelect ops=true)(pI:Fr)
   (hk:∀a w fr H,bH ds n a fr→Own g H w→cG ops.toList pI fr→K fr H→Q .normal a w):
    ∀(l:List Nat) (listed:Array Bool) (fr:Fr) (H:Hp),An P g n ops R K l listed fr H→∀(fuel:Nat),l.length≤fuel→cU .any ops listed→∀(a:Act) (w:World),bH ds n a fr→Own g H w→((∃k ok,ops[k]? =some ok∧pE P ok.op=true∧listed.getD k true=false)→Own g R w)→cG ops.toList pI fr→
      bT P .any ops (l8 Q) (y2 P g R ops) fuel listed a w
  | [],listed,fr,H,h=>by
    intro fuel _ fm a w ha hw hR ho
    unfold An at h
    cases hr:(Region.ready .any ops listed).isEmpty<;>simp only[hr,cond_true,cond_false]at h
    exact bT.done (Q:=l8 Q) (by simpa using hr) (hk a w fr H ha hw ho h) fuel
  |i::r,listed,fr,H,h=>by
    intro fuel hfuel fm a w ha hw hR ho
    unfold An at h
    split at h<;>try exact h.elim
    rename_i o jB
    have hmem:o∈ops.toList:=Array.mem_toList_iff.2 (Array.mem_of_getElem? jB)
    have hout:∀v,cG ops.toList pI (bc fr o.dst v):=fun v s hs'=>by
      rw[dr,ho s hs']
      have:∀l:List Oper,o∈l→aX l s=false→aX [({(default:Oper)with dst:=o.dst})] s=false:=by
        intro l
        induction l with
        |nil=>intro h;simp at h
        |cons x y ih=>
          intro hm hi
          rw[cm,Bool.or_eq_false_iff]at hi
          rcases List.mem_cons.1 hm with rfl|hm
          · exact hi.1
          · exact ih hm hi.2
      exact this _ hmem hs'
    cases hc:(cD n o.dst&&o.guard.isNone)<;>simp only[hc,cond_true,cond_false]at h
    simp only[Bool.and_eq_true]at hc
    obtain⟨fuel,rfl⟩:∃f,fuel=f+1:=⟨fuel-1,by simp only[List.length_cons]at hfuel;omega⟩
    have uP:r.length≤fuel:=by simp only[List.length_cons]at hfuel;omega
    cases s4:om o.op<;>simp only[s4,cond_true,cond_false]at h
    case true=>
      cases g7:(Region.free .any ops listed i&& (Region.ready .any ops listed).contains i)<;>simp only[g7,cond_true,cond_false]at h
      simp only[Bool.and_eq_true]at g7
      have hun:=(mem_ready.1 (by simpa using g7.2:i∈Region.ready .any ops listed)).1
      have oo:∀w,y2 P g R ops i w w:=fun w oj iz=>⟨fun _=>rfl,fun hn=>(by rw[jB]at iz;cases iz;rw[s4]at hn;cases hn)⟩
      cases hn:Kf P o.op
      case true=>
        rw[sF hn (ev fr) R []]at h
        obtain⟨v,hk',hr⟩:=gu h
        refine bT.take fm (S0:=Own g []) jB hs g7.1 g7.2 (fun _ _ _ h=>h) (fun w _=>oo w) (fun j oj w w' fc hj hno h0 hk=>?_) (.inl ⟨fW hc.2 _,fun w' de=>by rw[ha.eval];exact hr w' de⟩) hw.bu ?_
        · cases rE:om oj.op
          · exact((hk oj fc).2 rE).1
          · rw[(hk oj fc).1 rE];exact h0
        · refine lR hs pI hk r _ _ H hk' fuel uP (fm.step (by simpa using g7.2)) _ w (ha.put hc.1 v) hw ?_ (hout v)
          rintro⟨k,ok,ou,lJ,kD⟩
          exact hR ⟨k,ok,ou,lJ,dD hun kD⟩
      case false=>
        obtain⟨v,hk',hr⟩:=gu h
        have hrd:pE P o.op=true:=by simp[pE,s4,hn]
        have IQ:Own g R w:=hR ⟨i,o,jB,hrd,hun⟩
        refine bT.take fm (S0:=Own g R) jB hs g7.1 g7.2 (fun _ _ _ h=>h) (fun w _=>oo w) (fun j oj w w' fc hj hno h0 hk=>?_) (.inl ⟨fW hc.2 _,fun w' de=>by rw[ha.eval];exact hr w' de⟩) IQ ?_
        · cases rE:om oj.op
          · exact((hk oj fc).2 rE).2 (gQ jB hrd hj hno) h0
          · rw[(hk oj fc).1 rE];exact h0
        · exact lR hs pI hk r _ _ H hk' fuel uP (fm.step (by simpa using g7.2)) _ w (ha.put hc.1 v) hw (fun _=>IQ) (hout v)
    case false=>
      cases g7:(Region.ready .any ops listed==[i])<;>simp only[g7,cond_true,cond_false]at h
      have hrd:=beq_iff_eq.1 g7
      have tX:i∈Region.ready .any ops listed:=by rw[hrd];simp
      refine bT.all hrd (by simp) fun j hj=>?_
      simp only[List.mem_singleton]at hj
      subst hj
      unfold wpOp
      simp only[jB,fW hc.2,if_true]
      refine .inl ?_
      unfold Oper.wp
      rw[ha.eval]
      refine(nZ (jE fr) h w hw).upon (fun v H' w' bO hb=>?_) (fun ch H' w' _ h0=>h0.elim)
      obtain⟨he,hk'⟩:=hb.of
      refine⟨fun oj iz=>⟨fun hp=>(by rw[jB]at iz;cases iz;rw[s4]at hp;cases hp),fun _=>⟨bO.bu,fun hn _=>he (n6 hn) _ _ bO⟩⟩,lR hs pI hk r _ _ H' hk' fuel uP (fm.step tX) _ w' (ha.put hc.1 v) bO ?_ (hout v)⟩
      rintro⟨k,ok,ou,lJ,kD⟩
      refine he (n6 ?_) _ _ bO
      have IA:j≠k:=fun e=>by
        subst e
        rw[Array.getD_eq_getD_getElem?,Array.getElem?_setIfInBounds_self]at kD
        have:=(mem_ready.1 tX).1
        rw[Array.getD_eq_getD_getElem?]at this
        split at kD
        · simp at kD
        · rename_i hlt;rw[Array.getElem?_eq_none (by omega)]at this;simp at this
      rw[getD_set_ne true IA]at kD
      refine gQ ou lJ IA fun hw=>?_
      rw[fm.ready tX hw]at kD;cases kD
abbrev Mk:=Obj×(Nat→Value)
def DZ(elem size bytes:Nat)(zero:Value)(l c:Value)(k:Mk→Prop):Prop:=
  ∃kl kc ln cn,l=.int kl (ln:Nat)∧c=.int kc (cn:Nat)∧ln≤cn∧(cn:Int)≤9223372036854775807∧cn*bytes≤281474976710656∧
    k (.cells (madeCells zero.cells (cn*size)) elem (0,0),fun b=>.slice (some ⟨b,0,none⟩) ln cn)
def D3(P:Program)(t len:Nat)(parts:List (Nat×Value))(k:Mk→Prop):Prop:=
  ∃cs e n z,P.underlying t=some (.slice e)∧cC P e=some n∧ed P e=some z∧len*n≤2^24∧
      Instr.fill (fun i=>some (i*n,n)) ((Array.range (len*n)).map (z.cells[· %z.cells.size]!)) parts=some cs∧k (.cells cs e (0,0),fun b=>.slice (some ⟨b,0,none⟩) len len)
def Claim(P:Program)(o:Oper)(ρ:Operand→Value)(k:Mk→Prop):Prop:=
  match o.op with
  | .alloc t=>match ed P t with
    |some z=>k (.cells z.cells t (0,0),fun b=>.pointer (some ⟨b,0,none⟩))
    |none=>False
  | .makeMap _ none=>k (.map #[] 0,fun b=>.map (some b))
  | .makeSlice t l c=>match P.underlying t with
    |some (.slice e)=>match cC P e,oR P e,ed P e with
      |some n,some b,some z=>DZ e n b z (ρ l) (ρ c) k
      |_,_,_=>False
    |_=>False
  | .buildSlice t len parts=>D3 P t len (parts.toList.map fun p=>(p.1,ρ p.2)) k
  |_=>False
def qE(P:Program)(o:Oper)(ρ:Operand→Value)(x:Mk):Prop:=∀w,(execOp ρ o).run P w=.ok (.value (x.2 w.heap.size)) (w.alloc x.1)
theorem Claim.makes{o:Oper}{ρ:Operand→Value}{k:Mk→Prop}(h:Claim P o ρ k):∃x,qE P o ρ x∧k x:=by
  unfold Claim at h
  split at h
  · rename_i t hop
    split at h<;>try exact h.elim
    rename_i z hz
    obtain⟨i,hi,pG⟩:=bV hz
    refine⟨_,fun w=>?_,h⟩
    simp only[execOp,hop]
    simp[Instr.alloc,cQ hi pG,newVar,newRow]
  · rename_i t hop
    refine⟨_,fun w=>?_,h⟩
    simp only[execOp,hop]
    simp[Instr.makeMap]
  · rename_i t l c hop
    split at h<;>try exact h.elim
    rename_i e ht
    split at h<;>try exact h.elim
    rename_i n b z hn hb hz
    obtain⟨i,hi,hin⟩:=aW hn
    obtain⟨i',hi',pG⟩:=bV hz
    obtain⟨i2,zV,ov⟩:=jb hb
    have e1:i'=i:=Option.some.inj (hi'.symm.trans hi)
    have e2:i2=i:=Option.some.inj (zV.symm.trans hi)
    subst e1;subst e2
    obtain⟨kl,kc,ln,cn,hl,hc,hlc,cc,hby,hk⟩:=h
    subst hin;subst ov
    refine⟨_,fun w=>?_,hk⟩
    have e1:IntKind.i64.wrap (ln:Int)=ln:=IntWalk.i64_in _ (by omega)
    have e2:IntKind.i64.wrap (cn:Int)=cn:=IntWalk.i64_in _ (by omega)
    have e3:¬((i2.bytes:Int)*(cn:Int)>281474976710656):=by
      have:((cn*i2.bytes:Nat):Int)≤281474976710656:=by omega
      rw[Int.mul_comm];push_cast at this;omega
    have e4:¬((cn:Int)<ln):=by omega
    simp only[execOp,hop]
    by_cases h0:cn*i2.size=0
    · simp[Instr.makeSlice,run_underlying ht,asInt,asIntOf,typeInfo,hi,hl,hc,e1,e2,e3,e4,sizeOf,zeroValue,pG,newRow,madeCells,h0,show¬((cn:Int)<0)from by omega,show¬((ln:Int)<0)from by omega]
      have:Array.range 0=#[]:=rfl
      simp[this]
    · simp[Instr.makeSlice,run_underlying ht,asInt,asIntOf,typeInfo,hi,hl,hc,e1,e2,e3,e4,sizeOf,zeroValue,pG,newRow,madeCells,h0,show¬((cn:Int)<0)from by omega,show¬((ln:Int)<0)from by omega]
  · rename_i t len parts hop
    obtain⟨cs,e,n,z,ht,hn,hz,hl,hf,hk⟩:=h
    obtain⟨i,hi,hin⟩:=aW hn
    obtain⟨i',hi',pG⟩:=bV hz
    have:i'=i:=Option.some.inj (hi'.symm.trans hi)
    subst this
    subst hin
    refine⟨_,fun w=>?_,hk⟩
    have hl':¬(len*i'.size>2^24):=by omega
    have D8:(parts.map fun(x:Nat×Operand)=>(x.1,ρ x.2)).toList=parts.toList.map fun p=>(p.1,ρ p.2):=by rw[Array.toList_map]
    by_cases h0:len*i'.size=0
    · simp only[execOp,hop,Instr.buildSlice,Sem.run_bind,run_underlying ht,Result.andThen_ok,run_sizeOf hi,hl',if_false,h0,if_true,Sem.run_pure]
      rw[h0]at hf
      have Il:Array.range 0=#[]:=rfl
      simp only[Il,Array.map_empty,List.map_toArray,List.map_nil]at hf⊢
      rw[D8,hf]
      simp[newRow]
    · simp only[execOp,hop,Instr.buildSlice,Sem.run_bind,run_underlying ht,Result.andThen_ok,run_sizeOf hi,hl',if_false,h0,cQ hi pG,Sem.run_pure]
      simp[hf,newRow]
  · exact h.elim
abbrev xS:=List (Nat×Mk)
def marks:xS→Nat→Array Bool→Array Bool
  | [],_,l=>l
  |x::r,i,l=>marks r i (cond (Nat.beq x.1 i) l (l.setIfInBounds x.1 true))
def cT(ops:Array Oper)(o:Oper)(i:Nat)(listed:Array Bool):xS→Bool
  | []=>true
  |x::r=>(Nat.beq x.1 i||listed.getD x.1 true||(match ops[x.1]? with|some of=>of.apart ops o|none=>false)) &&cT ops o i listed r
def c4:xS→Nat→Option Mk
  | [],_=>none
  |x::r,i=>cond (Nat.beq x.1 i) (some x.2) (c4 r i)
def DS(listed:Array Bool):xS→Bool
  | []=>true
  |x::r=>listed.getD x.1 false&&DS listed r
inductive Hn
  |e
  |h(m:Nat)(L I:List Nat)(a b:Hn)
def Hn.m:Hn→Nat| .e=>0| .h m _ _ _ _=>m
def Hn.L:Hn→List Nat| .e=>[]| .h _ L _ _ _=>L
def Hn.I:Hn→List Nat| .e=>[]| .h _ _ I _ _=>I
def Hn.a:Hn→Hn| .e=>.e| .h _ _ _ a _=>a
def Hn.b:Hn→Hn| .e=>.e| .h _ _ _ _ b=>b
def Br(v:Value)(t f:Prop):Prop:=∃b,v=.bool b∧(b=true→t)∧(b=false→f)
def Ie(p:Oper)(fr:Fr):Value:=
  match p.op with
  | .move x=>ev fr x
  | .assign x=>ev fr x
  |_=>kz p fr
def zL(p:Oper):Bool:=match p.op with| .pick .. =>true| .move _=>true| .assign _=>true|_=>false
theorem B2{p:Oper}{fr:Fr}{t:Bool}(hp:zL p=true)(h:Ie p fr=.bool t)(w:World):(execOp (ev fr) p).run P w=.ok (.value (.bool t)) w:=by
  unfold zL at hp
  unfold Ie at h
  split at h
  · rename_i x hop;simp only[execOp,hop,h];rfl
  · rename_i x hop;simp only[execOp,hop,h];rfl
  · rename_i h1 h2
    split at hp
    · rename_i hop;exact kx (by unfold mC;rw[hop]) h w
    · rename_i x hop;exact absurd hop (h1 x)
    · rename_i x hop;exact absurd hop (h2 x)
    · cases hp
theorem B5{p:Oper}(hp:zL p=true):om p.op=true:=by
  unfold zL at hp
  split at hp<;>first|(rename_i hop;rw[hop];rfl)|cases hp
def qP(ops:Array Oper)(fr:Fr)(o:Oper):Option Bool:=
  match o.guard with
  |none=>some true
  |some (j,want)=>match cK ops j with
    |none=>none
    |some s=>match fr s with
      | .bool b=>some (b==want)
      | .tuple _=>some false
      |_=>none
def jO(P:Program)(g:Gh)(n:Nat)(ops:Array Oper)(R:Hp)(K:Fr→Hp→Prop):Hn→xS→Array Bool→Fr→Hp→Prop
  | .e,cl,listed,fr,H=>cond ((Region.ready .any ops listed).isEmpty&&DS listed cl) (K fr H) False
  | .h m L T pa pb,cl,listed,fr,H=>
    match L with
    | [i]=>
      match ops[i]? with
      |none=>False
      |some o=>
        cond (Nat.beq m 1)
          (cond (cD n o.dst&&o.guard.isNone&& !om o.op&& !listed.getD i true&&cT ops o i listed cl&& (match c4 cl i with|none=>true|some _=>false))
            (Claim P o (ev fr) fun x=>jO P g n ops R K pa ((i,x)::cl) listed fr H) False)
          (cond (cD n o.dst&&cT ops o i listed cl&& (Region.ready .any ops listed).contains i)
            (match qP ops fr o with
            |none=>False
            |some false=>cond (Region.free .any ops listed i&& (match c4 cl i with|none=>true|some _=>false)) (jO P g n ops R K pa cl (listed.setIfInBounds i true) (bc fr o.dst undef) H) False
            |some true=>
              cond (Nat.beq m 3) (cond (zL o&&Region.free .any ops listed i) (match Ie o fr with
                | .bool b=>jO P g n ops R K pa cl (listed.setIfInBounds i true) (bc fr o.dst (.bool b)) H
                |_=>False) False)
              (cond (om o.op)
                (cond (Region.free .any ops listed i)
                  (tT P g o (ev fr) R fun v=>cond (Nat.beq m 0) (jO P g n ops R K pa cl (listed.setIfInBounds i true) (bc fr o.dst v) H)
                    (Br v (jO P g n ops R K pa cl (listed.setIfInBounds i true) (bc fr o.dst (.bool true)) H) (jO P g n ops R K pb cl (listed.setIfInBounds i true) (bc fr o.dst (.bool false)) H))) False)
                (cond (Region.ready .any ops (marks cl i listed)==[i])
                  (match c4 cl i with
                    |some x=>dh H x.1 fun b H'=>jO P g n ops R K pa cl (listed.setIfInBounds i true) (bc fr o.dst (x.2 b)) H'
                    |none=>∀F,D4 P (g.add F) o (ev fr) H (fun v H'=>y6 (BT P ops T i) (aR H' R) (jO P g n ops R K pa cl (listed.setIfInBounds i true) (bc fr o.dst v) H')) (fun _ _=>False)) False))) False)
    | []=>cond (Nat.beq m 4) (∃R',aR H R'∧aR R' R∧jO P g n ops R' K pa cl listed fr H) False
    |_=>False
theorem Dr{cl:xS}{i:Nat}{x:Mk}(h:c4 cl i=some x):(i,x)∈cl:=by
  induction cl with
  |nil=>simp[c4]at h
  |cons y r ih=>
    simp only[c4]at h
    cases hb:Nat.beq y.1 i<;>simp only[hb,cond_true,cond_false]at h
    · exact List.mem_cons_of_mem _ (ih h)
    · have:=Nat.eq_of_beq_eq_true hb
      simp only[Option.some.injEq]at h
      subst this;subst h;exact List.mem_cons_self
theorem Ag{cl:xS}{i:Nat}(h:i∈cl.map Prod.fst):∃x,c4 cl i=some x:=by
  induction cl with
  |nil=>simp at h
  |cons y r ih=>
    simp only[c4]
    cases hb:Nat.beq y.1 i
    · simp only[cond_false]
      rw[List.map_cons,List.mem_cons]at h
      rcases h with h|h
      · subst h;simp at hb
      · exact ih h
    · exact⟨_,rfl⟩
theorem fM{cl:xS}{i:Nat}{x:Mk}(h:c4 cl i=some x):i∈cl.map Prod.fst:=List.mem_map.2 ⟨_,Dr h,rfl⟩
theorem qc{l:xS}{i:Nat}{b:Array Bool}{k:Nat}:(marks l i b)[k]? =if k∈l.map Prod.fst∧k≠i∧k<b.size then some true else b[k]? :=by
  induction l generalizing b with
  |nil=>simp[marks]
  |cons y r ih=>
    simp only[marks]
    cases hy:Nat.beq y.1 i
    · have hne:y.1≠i:=fun e=>by rw[e]at hy;simp at hy
      simp only[cond_false,ih,Array.size_setIfInBounds]
      by_cases hk:k∈r.map Prod.fst∧k≠i∧k<b.size
      · rw[if_pos hk,if_pos ⟨by rw[List.map_cons];exact List.mem_cons_of_mem _ hk.1,hk.2⟩]
      · rw[if_neg hk]
        by_cases e:y.1=k
        · subst e
          by_cases hlt:y.1<b.size
          · rw[if_pos ⟨by simp,hne,hlt⟩,Array.getElem?_setIfInBounds_self_of_lt hlt]
          · rw[if_neg (fun h=>hlt h.2.2),Array.getElem?_eq_none (by simp;omega),Array.getElem?_eq_none (by omega)]
        · rw[Array.getElem?_setIfInBounds_ne e,if_neg]
          rintro⟨h1,h2⟩
          rw[List.map_cons,List.mem_cons]at h1
          rcases h1 with h1|h1
          · exact e h1.symm
          · exact hk ⟨h1,h2⟩
    · have he:=Nat.eq_of_beq_eq_true hy
      simp only[cond_true,ih]
      by_cases hk:k∈r.map Prod.fst∧k≠i∧k<b.size
      · rw[if_pos hk,if_pos ⟨by rw[List.map_cons];exact List.mem_cons_of_mem _ hk.1,hk.2⟩]
      · rw[if_neg hk,if_neg]
        rintro⟨h1,h2,h3⟩
        rw[List.map_cons,List.mem_cons]at h1
        rcases h1 with h1|h1
        · exact h2 (h1.trans he)
        · exact hk ⟨h1,h2,h3⟩
theorem dg{ops:Array Oper}{o:Oper}{i:Nat}{listed:Array Bool}{l:xS}(h:cT ops o i listed l=true){f:Nat}(hf:f∈l.map Prod.fst)(hne:f≠i)(hun:listed.getD f true=false):
    ∃of,ops[f]? =some of∧of.apart ops o=true:=by
  induction l with
  |nil=>simp at hf
  |cons x r ih=>
    simp only[cT,Bool.and_eq_true,Bool.or_eq_true]at h
    rw[List.map_cons]at hf
    rcases List.mem_cons.1 hf with rfl|hf
    · rcases h.1 with(h1|h1)|h1
      · exact absurd (Nat.eq_of_beq_eq_true h1) hne
      · rw[hun]at h1;simp at h1
      · split at h1
        · rename_i of ho;exact⟨of,ho,h1⟩
        · simp at h1
    · exact ih h.2 hf
theorem ve{ops:Array Oper}{x y:Oper}(h:x.apart ops y=true):y.apart ops x=true:=by
  unfold Oper.apart at*
  cases hx:x.dst<;>cases hy:y.dst<;>simp_all
  exact fun e=>h.1.2 e.symm
theorem mG{ops:Array Oper}{l l':Array Bool}{i:Nat}(h:Region.free .any ops l i=true)(hm:∀k,l.getD k true=true→l'.getD k true=true):Region.free .any ops l' i=true:=by
  unfold Region.free at*
  split at h
  · simp at h
  · rename_i oi jB
    rw[List.all_eq_true]at h⊢
    intro j hj
    have:=h j hj
    simp only[Bool.or_eq_true]at this⊢
    rcases this with(h1|h1)|h1
    · exact .inl (.inl h1)
    · exact .inl (.inr (hm j h1))
    · exact .inr h1
abbrev Early:=List (Nat×Nat×Mk)
def Hq(E:Early):Hp:=E.map fun x=>(x.2.1,x.2.2.1)
structure Jf(P:Program)(n:Nat)(ops:Array Oper)(listed:Array Bool)(cl:xS)(fr:Fr)(j:Nat)(x:Mk)(o:Oper):Prop where
  op:ops[j]? =some o
  sG:om o.op=false
  dst:cD n o.dst=true
  gd:o.guard.isNone=true
  makes:qE P o (ev fr) x
  MG:∀k y,c4 cl k=some y→k≠j→listed.getD k true=false→∃ok,ops[k]? =some ok∧ok.apart ops o=true
structure gH(P:Program)(n:Nat)(ops:Array Oper)(cl:xS)(listed la:Array Bool)(E:Early)(fr fa:Fr):Prop where
  mem:∀x∈E,c4 cl x.1=some x.2.2∧listed.getD x.1 true=false
  nd:(E.map Prod.fst).Nodup
  la:∀k,la[k]? =if k∈E.map Prod.fst then some true else listed[k]?
  out:∀s,(∀x∈E,cK ops x.1≠some s)→fa s=fr s
  at_:∀x∈E,∀d,cK ops x.1=some d→fa d=x.2.2.2 x.2.1
  cl:∀j x,c4 cl j=some x→listed.getD j true=false→∃o,Jf P n ops listed cl fr j x o
section
variable {n:Nat} {ops:Array Oper} {cl:xS} {listed la:Array Bool} {E:Early} {fr fa:Fr}
theorem gH.more(h:gH P n ops cl listed la E fr fa){k:Nat}{b:Bool}(hk:listed.getD k b=true):la.getD k b=true:=by
  have:=h.la k
  rw[Array.getD_eq_getD_getElem?]at hk⊢
  rw[this]
  split
  · rfl
  · exact hk
theorem gH.ready(h:gH P n ops cl listed la E fr fa){i:Nat}(hi:i∉E.map Prod.fst)(hr:i∈Region.ready .any ops listed):i∈Region.ready .any ops la:=by
  rw[mem_ready]at hr⊢
  obtain⟨h1,o,ho,aD⟩:=hr
  refine⟨?_,o,ho,fun e he hb=>h.more (aD e he hb)⟩
  have:=h.la i
  rw[Array.getD_eq_getD_getElem?]at h1⊢
  rw[this,if_neg hi];exact h1
theorem GA{i k:Nat}(h:(listed.setIfInBounds i true).getD k true=false):i≠k∧listed.getD k true=false:=by
  by_cases e:i=k
  · subst e
    rw[Array.getD_eq_getD_getElem?]at h
    rcases Nat.lt_or_ge i listed.size with hl|hl
    · rw[Array.getElem?_setIfInBounds_self_of_lt hl]at h;cases h
    · rw[Array.getElem?_eq_none (by simpa using hl)]at h;cases h
  · exact⟨e,by rwa [getD_set_ne true e]at h⟩
theorem qE.congr{o o':Oper}{x:Mk}{v:Value}(h:qE P o (ev fr) x)(hs:∀cs b,o.op≠.select cs b)(hap:o.apart ops o'=true):qE P o (ev (bc fr o'.dst v)) x:=by
  have e:execOp (ev (bc fr o'.dst v)) o=execOp (ev fr) o:=by
    refine execOp_congr o hs fun y hy=>?_
    cases y with
    |tmp t=>
      obtain⟨_,_,h3⟩:=Oper.apart_spec hap
      cases hd:o'.dst with
      |none=>rfl
      |some d=>
        have:=h3 d hd
        have hne:Nat.beq t d=false:=by
          cases hb:Nat.beq t d
          · rfl
          · have e:=Nat.eq_of_beq_eq_true hb;subst e
            refine absurd ?_ this
            exact List.mem_append_left _ (List.mem_filterMap.2 ⟨Operand.tmp t,by simpa using hy,rfl⟩)
        simp only[ev,bc,hne,cond_false]
    |const v=>rfl
    |global g=>rfl
    |func f=>rfl
  intro w;rw[e];exact h w
theorem DD(hs:Region.noSelect ops=true)(fo:∀j x,c4 cl j=some x→listed.getD j true=false→∃o,Jf P n ops listed cl fr j x o){i:Nat}{o:Oper}(hap:cT ops o i listed cl=true)(v:Value):
    ∀j x,c4 cl j=some x→(listed.setIfInBounds i true).getD j true=false→∃oj,Jf P n ops (listed.setIfInBounds i true) cl (bc fr o.dst v) j x oj:=by
  intro j x hx hun
  obtain⟨hne,Fu⟩:=GA hun
  obtain⟨oj,h⟩:=fo j x hx Fu
  obtain⟨Pn,bO,On⟩:=dg hap (fM hx) (Ne.symm hne) Fu
  rw[h.op]at bO;cases bO
  exact⟨oj,h.op,h.sG,h.dst,h.gd,h.makes.congr (fun cs b=>Region.noSelect_spec hs j oj cs b h.op) On,fun k y hk Jv FE=>h.MG k y hk Jv (GA FE).2⟩
theorem gH.step(hs:Region.noSelect ops=true)(h:gH P n ops cl listed la E fr fa){i:Nat}{o:Oper}(jB:ops[i]? =some o)(hi:i∉E.map Prod.fst)
   (oA:cT ops o i listed cl=true)(v:Value):gH P n ops cl (listed.setIfInBounds i true) (la.setIfInBounds i true) E (bc fr o.dst v) (bc fa o.dst v):=by
  have hap:∀x∈E,∃of,ops[x.1]? =some of∧of.apart ops o=true:=fun x hx=>
      dg oA (fM (h.mem x hx).1) (fun e=>hi (e▸List.mem_map_of_mem hx)) (h.mem x hx).2
  have hsz:la[i]? =listed[i]? :=by rw[h.la i,if_neg hi]
  refine⟨fun x hx=>⟨(h.mem x hx).1,?_⟩,h.nd,fun k=>?_,fun s hs=>?_,fun x hx d hd=>?_,DD hs h.cl oA v⟩
  · have hne:i≠x.1:=fun e=>hi (e▸List.mem_map_of_mem hx)
    rw[getD_set_ne true hne];exact(h.mem x hx).2
  · by_cases e:i=k
    · subst e
      rw[if_neg hi,Array.getElem?_setIfInBounds,Array.getElem?_setIfInBounds]
      simp only[if_true]
      have:i<la.size↔i<listed.size:=by
        constructor
        · intro hlt;rw[Array.getElem?_eq_getElem hlt]at hsz;exact(Array.getElem?_eq_some_iff.1 hsz.symm).1
        · intro hlt;rw[Array.getElem?_eq_getElem hlt]at hsz;exact(Array.getElem?_eq_some_iff.1 hsz).1
      by_cases hlt:i<la.size
      · rw[if_pos hlt,if_pos (this.1 hlt)]
      · rw[if_neg hlt,if_neg (fun x=>hlt (this.2 x))]
    · rw[Array.getElem?_setIfInBounds_ne e,Array.getElem?_setIfInBounds_ne e];exact h.la k
  · cases hd:o.dst with
    |none=>exact h.out s hs
    |some d=>
      simp only[bc]
      cases Nat.beq s d
      · exact h.out s hs
      · rfl
  · obtain⟨of,Iq,hap⟩:=hap x hx
    obtain⟨h1,h2,h3⟩:=Oper.apart_spec hap
    have Ip:of.dst=some d:=by simpa[cK,Iq]using hd
    have:=h2 d Ip
    cases Oe:o.dst with
    |none=>exact h.at_ x hx d hd
    |some d'=>
      have hne:Nat.beq d d'=false:=by
        cases hb:Nat.beq d d'
        · rfl
        · have e:=Nat.eq_of_beq_eq_true hb;subst e;exact absurd Oe this
      simp only[bc,hne,cond_false];exact h.at_ x hx d hd
theorem gH.exec(h:gH P n ops cl listed la E fr fa){o:Oper}
   (hap:∀x∈E,∃of,ops[x.1]? =some of∧of.apart ops o=true)(hs:∀cs b,o.op≠.select cs b):execOp (ev fa) o=execOp (ev fr) o:=by
  refine execOp_congr o hs fun x hx=>?_
  cases x with
  |tmp t=>
    refine h.out t fun y hy e=>?_
    obtain⟨of,Iq,hap⟩:=hap y hy
    obtain⟨h1,_,_⟩:=Oper.apart_spec hap
    refine h1 t (by simpa[cK,Iq]using e) ?_
    exact List.mem_append_left _ (List.mem_filterMap.2 ⟨.tmp t,by simpa using hx,rfl⟩)
  |const v=>rfl
  |global g=>rfl
  |func f=>rfl
theorem gH.early(h:gH P n ops cl listed la E fr fa){j b:Nat}{x:Mk}(hj:c4 cl j=some x)(Cw:j∉E.map Prod.fst)(hun:listed.getD j true=false)
   {o:Oper}(ho:ops[j]? =some o):gH P n ops cl listed (la.setIfInBounds j true) ((j,b,x)::E) fr (bc fa o.dst (x.2 b)):=by
  obtain⟨o',fo⟩:=h.cl j x hj hun
  have bO:=fo.op
  rw[ho]at bO;cases bO
  have IN:∀y∈E,∃of,ops[y.1]? =some of∧of.apart ops o=true:=fun y hy=>
    fo.MG y.1 _ (h.mem y hy).1 (fun e=>Cw (e▸List.mem_map_of_mem hy)) (h.mem y hy).2
  have NS:j<la.size:=by
    have hl:=h.la j
    rw[if_neg Cw]at hl
    have h2:j<listed.size:=by
      rcases Nat.lt_or_ge j listed.size with h2|h2
      · exact h2
      · rw[Array.getD_eq_getD_getElem?,Array.getElem?_eq_none h2]at hun;simp at hun
    rw[Array.getElem?_eq_getElem h2]at hl
    exact(Array.getElem?_eq_some_iff.1 hl).1
  refine⟨fun y hy=>?_,?_,fun k=>?_,fun s hs=>?_,fun y hy d hd=>?_,h.cl⟩
  · rcases List.mem_cons.1 hy with rfl|hy
    · exact⟨hj,hun⟩
    · exact h.mem y hy
  · rw[List.map_cons,List.nodup_cons];exact⟨Cw,h.nd⟩
  · by_cases e:j=k
    · subst e;rw[if_pos (by simp),Array.getElem?_setIfInBounds_self_of_lt NS]
    · rw[Array.getElem?_setIfInBounds_ne e,h.la k]
      by_cases hk:k∈E.map Prod.fst
      · rw[if_pos hk,if_pos (by rw[List.map_cons];exact List.mem_cons_of_mem _ hk)]
      · rw[if_neg hk,if_neg]
        rw[List.map_cons,List.mem_cons]
        rintro(h1|hk')
        · exact e h1.symm
        · exact hk hk'
  · have hne:=hs (j,b,x) (by simp)
    simp only[cK,ho]at hne
    rw[show bc fa o.dst (x.2 b) s=fa s from ?_]
    · exact h.out s fun y hy=>hs y (by simp[hy])
    · cases hd:o.dst with
      |none=>rfl
      |some d=>
        rw[hd]at hne
        have:Nat.beq s d=false:=by
          cases hb:Nat.beq s d
          · rfl
          · exact absurd (congrArg some (Nat.eq_of_beq_eq_true hb).symm) hne
        simp only[bc,this,cond_false]
  · rcases List.mem_cons.1 hy with rfl|hy
    · simp only[cK,ho]at hd
      rw[hd];simp[bc]
    · obtain⟨of,Iq,hap⟩:=IN y hy
      obtain⟨_,h2,_⟩:=Oper.apart_spec hap
      have Ip:of.dst=some d:=by simpa[cK,Iq]using hd
      have:=h2 d Ip
      cases Oe:o.dst with
      |none=>exact h.at_ y hy d hd
      |some d'=>
        have hne:Nat.beq d d'=false:=by
          cases hb:Nat.beq d d'
          · rfl
          · have e:=Nat.eq_of_beq_eq_true hb;subst e;exact absurd Oe this
        simp only[bc,hne,cond_false];exact h.at_ y hy d hd
theorem gH.qS(hs:Region.noSelect ops=true){E1 E2:Early}{j b:Nat}{x:Mk}(h:gH P n ops cl listed la (E1++(j,b,x)::E2) fr fa){o:Oper}(ho:ops[j]? =some o)(oA:cT ops o j listed cl=true):
    gH P n ops cl (listed.setIfInBounds j true) la (E1++E2) (bc fr o.dst (x.2 b)) fa:=by
  have fI:=h.nd
  rw[List.map_append,List.map_cons]at fI
  have FH:j∉(E1++E2).map Prod.fst:=by
    have:=(List.perm_middle.nodup_iff.1 fI)
    rw[List.nodup_cons]at this
    rw[List.map_append];exact this.1
  have hsub:∀y,y∈E1++E2→y∈E1++(j,b,x)::E2:=fun y hy=>by
    rcases List.mem_append.1 hy with hy|hy<;>simp[hy]
  have IB:j<listed.size:=by
    have h2:=(h.mem (j,b,x) (by simp)).2
    rcases Nat.lt_or_ge j listed.size with h3|h3
    · exact h3
    · simp only at h2;rw[Array.getD_eq_getD_getElem?,Array.getElem?_eq_none h3]at h2;simp at h2
  refine⟨fun y hy=>⟨(h.mem y (hsub y hy)).1,?_⟩,?_,fun k=>?_,fun s hs=>?_,fun y hy d hd=>h.at_ y (hsub y hy) d hd,DD hs h.cl oA _⟩
  · have hne:j≠y.1:=fun e=>FH (e▸List.mem_map_of_mem hy)
    rw[getD_set_ne true hne];exact(h.mem y (hsub y hy)).2
  · have:=(List.perm_middle.nodup_iff.1 fI)
    rw[List.nodup_cons]at this
    rw[List.map_append];exact this.2
  · have hk:=h.la k
    by_cases e:j=k
    · subst e
      rw[if_pos (by simp)]at hk
      rw[hk,if_neg FH,Array.getElem?_setIfInBounds_self_of_lt IB]
    · rw[Array.getElem?_setIfInBounds_ne e,hk]
      have:k∈(E1++(j,b,x)::E2).map Prod.fst↔k∈(E1++E2).map Prod.fst:=by
        simp only[List.map_append,List.map_cons,List.mem_append,List.mem_cons]
        constructor
        · rintro(h|rfl|h)
          · exact .inl h
          · exact absurd rfl e
          · exact .inr h
        · rintro(h|h)
          · exact .inl h
          · exact .inr (.inr h)
      simp only[this]
  · by_cases e:cK ops j=some s
    · rw[h.at_ (j,b,x) (by simp) s e]
      simp only[cK,ho]at e
      rw[e];simp[bc]
    · rw[h.out s fun y hy=>?_]
      · simp only[cK,ho]at e
        cases hd:o.dst with
        |none=>rfl
        |some d=>
          rw[hd]at e
          have:Nat.beq s d=false:=by
            cases hb:Nat.beq s d
            · rfl
            · exact absurd (congrArg some (Nat.eq_of_beq_eq_true hb).symm) e
          simp only[bc,this,cond_false]
      · rcases List.mem_append.1 hy with hy|hy
        · exact hs y (by simp[hy])
        · rcases List.mem_cons.1 hy with rfl|hy
          · exact e
          · exact hs y (by simp[hy])
theorem gH.LF(h:gH P n ops cl listed la E fr fa){i:Nat}{o:Oper}{x:Mk}(ho:ops[i]? =some o)(hd:cD n o.dst=true)(hg:o.guard.isNone=true)(hp:om o.op=false)(hun:listed.getD i true=false)
   (hap:cT ops o i listed cl=true)(hno:c4 cl i=none)(hm:qE P o (ev fr) x):gH P n ops ((i,x)::cl) listed la E fr fa:=by
  have hne:∀j y,c4 cl j=some y→j≠i:=fun j y hj e=>by subst e;rw[hno]at hj;cases hj
  have hex:∀j y,c4 cl j=some y→c4 ((i,x)::cl) j=some y:=fun j y hj=>by
    have:Nat.beq i j=false:=by
      cases hb:Nat.beq i j
      · rfl
      · exact absurd (Nat.eq_of_beq_eq_true hb).symm (hne j y hj)
    simp only[c4,this,cond_false];exact hj
  have IF:∀j y,c4 ((i,x)::cl) j=some y→(j=i∧y=x)∨(j≠i∧c4 cl j=some y):=fun j y hj=>by
    simp only[c4]at hj
    cases hb:Nat.beq i j<;>simp only[hb,cond_true,cond_false]at hj
    · exact .inr ⟨fun e=>by subst e;simp at hb,hj⟩
    · exact .inl ⟨(Nat.eq_of_beq_eq_true hb).symm,by simpa using hj.symm⟩
  refine⟨fun y hy=>⟨hex _ _ (h.mem y hy).1,(h.mem y hy).2⟩,h.nd,h.la,h.out,h.at_,fun j y hj hu=>?_⟩
  rcases IF j y hj with⟨rfl,rfl⟩|⟨KE,Ml⟩
  · refine⟨o,ho,hp,hd,hg,hm,fun k z hk Jv FE=>?_⟩
    rcases IF k z hk with⟨rfl,rfl⟩|⟨_,hk⟩
    · exact absurd rfl Jv
    · exact dg hap (fM hk) Jv FE
  · obtain⟨oj,hc⟩:=h.cl j y Ml hu
    refine⟨oj,hc.op,hc.sG,hc.dst,hc.gd,hc.makes,fun k z hk Jv FE=>?_⟩
    rcases IF k z hk with⟨rfl,rfl⟩|⟨_,hk⟩
    · obtain⟨Pn,h1,h2⟩:=dg hap (fM Ml) KE hu
      rw[hc.op]at h1;cases h1
      exact⟨o,ho,ve h2⟩
    · exact hc.MG k z hk Jv FE
end
theorem Aj{E1 E2:Early}{y:Nat×Nat×Mk}:(Hq (E1++y::E2)).Perm ((y.2.1,y.2.2.1)::Hq (E1++E2)):=by
  unfold Hq
  rw[List.map_append,List.map_cons,List.map_append]
  exact List.perm_middle
def cnt:List Bool→Nat
  | []=>0
  |b::r=>cond b 0 1+cnt r
theorem yN:∀(l:List Bool) (i:Nat),l[i]? =some false→cnt (l.set i true)+1=cnt l
  | [],i,h=>by simp at h
  |b::r,0,h=>by simp only[List.getElem?_cons_zero,Option.some.injEq]at h;subst h;simp only[List.set_cons_zero,cnt,cond_true,cond_false];omega
  |b::r,i+1,h=>by
    simp only[List.getElem?_cons_succ]at h
    have:=yN r i h
    simp only[List.set_cons_succ,cnt];omega
theorem pJ(n:Nat):cnt (List.replicate n false)=n:=by
  induction n with
  |zero=>rfl
  |succ n ih=>simp only[List.replicate_succ,cnt,ih,cond_false];omega
theorem dm{a:Array Bool}{i:Nat}(h:a.getD i true=false):a[i]? =some false:=by
  rw[Array.getD_eq_getD_getElem?]at h
  cases hg:a[i]? with
  |none=>rw[hg]at h;simp at h
  |some b=>rw[hg]at h;simpa using h
theorem ja{a:Array Bool}{i fuel:Nat}(h:a.getD i true=false)(hf:cnt a.toList≤fuel):∃f,fuel=f+1∧cnt (a.setIfInBounds i true).toList≤f:=by
  have h1:=dm h
  have h2:a.toList[i]? =some false:=by rw[Array.getElem?_toList];exact h1
  have:=yN _ _ h2
  refine⟨fuel-1,by omega,?_⟩
  have:(a.setIfInBounds i true).toList=a.toList.set i true:=by simp
  rw[this];omega
theorem Ax{listed:Array Bool}{l:xS}(h:DS listed l=true){f:Nat}(hf:f∈l.map Prod.fst):listed.getD f false=true:=by
  induction l with
  |nil=>simp at hf
  |cons x r ih=>
    simp only[DS,Bool.and_eq_true]at h
    rw[List.map_cons]at hf
    rcases List.mem_cons.1 hf with rfl|hf
    · exact h.1
    · exact ih h.2 hf
theorem F1{a:Array Bool}{i:Nat}(h:a.getD i false=true):a.getD i true=true:=by
  rw[Array.getD_eq_getD_getElem?]at*
  cases hg:a[i]? with
  |none=>rfl
  |some b=>rw[hg]at h;simpa using h
theorem cF{n:Nat}{ops:Array Oper}{R:Hp}{Xs:List Hp}{K:Fr→Hp→Prop}{Q:Exit→Act→World→Prop}(hs:Region.noSelect ops=true)(rZ:R∈Xs)(A4:∀X∈Xs,aR R X)(pI:Fr)
   (hk:∀a w fr H,bH ds n a fr→Own g H w→cG ops.toList pI fr→K fr H→Q .normal a w):
    ∀(fuel:Nat) (l:Hn) (cl:xS) (listed:Array Bool) (fr:Fr) (H:Hp),jO P g n ops R K l cl listed fr H→∀(E:Early) (la:Array Bool) (fa:Fr),cnt la.toList≤fuel→gH P n ops cl listed la E fr fa→cU .any ops la→
      ∀(a:Act) (w:World),bH ds n a fa→Own (g.add (Hq E)) H w→((∃k ok,ops[k]? =some ok∧pE P ok.op=true∧la.getD k true=false)→Own g R w)→cG ops.toList pI fr→
      bT P .any ops (l8 Q) (kL P g Xs ops) fuel la a w
  |fuel,.e,cl,listed,fr,H,h=>by
    intro E la fa hfuel hE fm a w ha hw hR ho
    unfold jO at h
    cases hr:((Region.ready .any ops listed).isEmpty&&DS listed cl)<;>simp only[hr,cond_true,cond_false]at h
    simp only[Bool.and_eq_true]at hr
    have hr':Region.ready .any ops listed=[]:=by simpa using hr.1
    have Se:E=[]:=by
      cases E with
      |nil=>rfl
      |cons x y=>
        have h1:=hE.mem x (by simp)
        have h2:=F1 (Ax hr.2 (fM h1.1))
        rw[h1.2]at h2;cases h2
    subst Se
    have RH:fa=fr:=by funext s;exact hE.out s (by simp)
    subst RH
    refine bT.done (Q:=l8 Q) ?_ (hk a w fa H ha hw ho h) fuel
    rw[List.eq_nil_iff_forall_not_mem]at hr'⊢
    intro k hk'
    refine hr' k ?_
    rw[mem_ready]at hk'⊢
    obtain⟨h1,o,h2,h3⟩:=hk'
    have hla:=fun k=>hE.la k
    simp only[List.map_nil,List.not_mem_nil,if_false]at hla
    refine⟨?_,o,h2,fun e he hb=>?_⟩
    · rw[Array.getD_eq_getD_getElem?,←hla,←Array.getD_eq_getD_getElem?];exact h1
    · rw[Array.getD_eq_getD_getElem?,←hla,←Array.getD_eq_getD_getElem?];exact h3 e he hb
  |fuel,.h m L T pa pb,cl,listed,fr,H,h=>by
    intro E la fa hfuel hE fm a w ha hw hR ho
    have h0:=h
    unfold jO at h
    split at h<;>try exact h.elim
    rotate_left
    · cases h4:Nat.beq m 4<;>simp only[h4,cond_true,cond_false]at h
      obtain⟨R',Kn,rD,hk'⟩:=h
      exact(cF (R:=R') (Xs:=R'::Xs) hs (.head _) (fun X hX=>by
        rcases List.mem_cons.1 hX with rfl|hX
        · exact .refl _
        · exact rD.trans (A4 X hX)) pI hk fuel pa cl listed fr H hk' E la fa hfuel hE fm a w ha hw (fun _=>Kn _ _ (Own.dz.2 hw).left) ho).mono fun j w w' hK X hX=>hK X (.tail _ hX)
    rename_i i
    split at h<;>try exact h.elim
    rename_i o jB
    cases h1:Nat.beq m 1<;>simp only[h1,cond_true,cond_false]at h
    case true=>
      cases hc:(cD n o.dst&&o.guard.isNone&& !om o.op&& !listed.getD i true&&cT ops o i listed cl&& (match c4 cl i with|none=>true|some _=>false))<;>simp only[hc,cond_true,cond_false]at h
      simp only[Bool.and_eq_true,Bool.not_eq_true']at hc
      obtain⟨⟨⟨⟨⟨hd,hg⟩,hp⟩,hun⟩,hap⟩,hno⟩:=hc
      have Cq:c4 cl i=none:=by
        split at hno
        · assumption
        · cases hno
      obtain⟨x,hm,hk'⟩:=h.makes
      exact cF hs rZ A4 pI hk fuel pa _ listed fr H hk' E la fa hfuel (hE.LF jB hd hg hp hun hap Cq hm) fm a w ha hw hR ho
    have hmem:o∈ops.toList:=Array.mem_toList_iff.2 (Array.mem_of_getElem? jB)
    have hout:∀v,cG ops.toList pI (bc fr o.dst v):=fun v s hs'=>by
      rw[dr,ho s hs']
      have:∀l:List Oper,o∈l→aX l s=false→aX [({(default:Oper)with dst:=o.dst})] s=false:=by
        intro l
        induction l with
        |nil=>intro h;simp at h
        |cons x y ih=>
          intro hm hi
          rw[cm,Bool.or_eq_false_iff]at hi
          rcases List.mem_cons.1 hm with rfl|hm
          · exact hi.1
          · exact ih hm hi.2
      exact this _ hmem hs'
    cases hc:(cD n o.dst&&cT ops o i listed cl&& (Region.ready .any ops listed).contains i)<;>simp only[hc,cond_true,cond_false]at h
    simp only[Bool.and_eq_true]at hc
    obtain⟨⟨hd,oA⟩,ND⟩:=hc
    have tX:i∈Region.ready .any ops listed:=by simpa using ND
    have hun:=(mem_ready.1 tX).1
    have hap:i∉E.map Prod.fst→∀x∈E,∃of,ops[x.1]? =some of∧of.apart ops o=true:=fun hi x hx=>
      dg oA (fM (hE.mem x hx).1) (fun e=>hi (e▸List.mem_map_of_mem hx)) (hE.mem x hx).2
    have hsel:∀cs b,o.op≠.select cs b:=fun cs b=>Region.noSelect_spec hs i o cs b jB
    have JQ:∀j,j∈Region.ready .any ops la→j∉E.map Prod.fst∧listed.getD j true=false:=fun j hj=>by
      have h1:=dm (mem_ready.1 hj).1
      have h2:=hE.la j
      by_cases Cw:j∈E.map Prod.fst
      · rw[if_pos Cw,h1]at h2;cases h2
      · rw[if_neg Cw,h1]at h2
        exact⟨Cw,by rw[Array.getD_eq_getD_getElem?,←h2];rfl⟩
    have early:∀f',fuel=f'+1→(∀j,la.getD j true=false→cnt (la.setIfInBounds j true).toList≤f')→∀j x,j∈Region.ready .any ops la→c4 cl j=some x→
        wpOp P ops (l8 Q) j (fun a' w'=>kL P g Xs ops j w w'∧bT P .any ops (l8 Q) (kL P g Xs ops) f' (la.setIfInBounds j true) a' w') a w:=by
      intro f' Ea jM j x hj Mj
      obtain⟨Cw,IB⟩:=JQ j hj
      obtain⟨oj,fo⟩:=hE.cl j x Mj IB
      have fc:=fo.op
      have rE:=fo.sG
      have RE:=fo.gd
      have Oc:execOp (ev fa) oj=execOp (ev fr) oj:=hE.exec (fun y hy=>fo.MG y.1 _ (hE.mem y hy).1 (fun e=>Cw (e▸List.mem_map_of_mem hy)) (hE.mem y hy).2) (fun cs b=>Region.noSelect_spec hs j oj cs b fc)
      unfold wpOp
      simp only[fc,fW RE,if_true]
      refine .inl ?_
      unfold Oper.wp
      rw[ha.eval,Oc,fo.makes w]
      simp only[Oper.upon]
      have G9:∀{A:Hp},Own g A w→Own g A (w.alloc x.1):=fun hA=>(hA.alloc x.1).tail
      refine⟨fun X _ Pn iz=>⟨fun hp=>?_,fun _=>⟨G9 (Own.dz.2 hw).bu,fun _ h1=>G9 h1⟩⟩,?_⟩
      · rw[fc]at iz;cases iz;rw[rE]at hp;cases hp
      · have Sf:=hE.early (b:=w.heap.size) Mj Cw IB fc
        refine cF hs rZ A4 pI hk f' (.h m [i] T pa pb) cl listed fr H h0 ((j,w.heap.size,x)::E) _ _ (jM j (mem_ready.1 hj).1) Sf (fm.step hj) _ _ (ha.put fo.dst _) ?_ ?_ ho
        · have h1:=hw.alloc x.1
          have h2:Own (g.add (Hq E)) (H++[(w.heap.size,x.1)]) (w.alloc x.1):=h1.perm (by exact(List.perm_append_comm (l₁:=[(w.heap.size,x.1)]) (l₂:=H)))
          have h3:=Own.dz.1 h2
          exact h3
        · rintro⟨k,ok,ou,lJ,kD⟩
          refine G9 (hR ⟨k,ok,ou,lJ,dD (mem_ready.1 hj).1 kD⟩)
    have jV:∀b,qP ops fr o=some b→i∉E.map Prod.fst→Region.wanted o (yielded ops a.tmps)=b:=by
      intro b hb ow
      unfold qP at hb
      unfold Region.wanted
      split at hb
      · rename_i hg;simp only[hg];simpa using hb
      · rename_i j want hg
        simp only[hg]
        split at hb<;>try (cases hb;done)
        rename_i s gf
        rw[gM ha gf]
        have kQ:fa s=fr s:=hE.out s fun y hy e=>by
          obtain⟨of,Iq,hap⟩:=hap ow y hy
          obtain⟨h1,_,_⟩:=Oper.apart_spec hap
          refine h1 s (by simpa[cK,Iq]using e) ?_
          refine List.mem_append_right _ ?_
          rw[hg]
          unfold cK at gf
          cases hj:ops[j]? with
          |none=>rw[hj]at gf;cases gf
          |some oj=>rw[hj]at gf;simp only at gf;simp[hj,gf]
        rw[kQ]
        split at hb
        · rename_i c hc;rw[hc];simp only[Option.some.injEq]at hb;subst hb;cases c<;>cases want<;>rfl
        · rename_i c hc;rw[hc];simp only[Option.some.injEq]at hb;subst hb;cases want<;>rfl
        · cases hb
    split at h<;>try exact h.elim
    · -- not wanted
      rename_i Nn
      cases g7:(Region.free .any ops listed i&& (match c4 cl i with|none=>true|some _=>false))<;>simp only[g7,cond_true,cond_false]at h
      simp only[Bool.and_eq_true]at g7
      have Cq:c4 cl i=none:=by
        have:=g7.2
        split at this
        · assumption
        · cases this
      have ow:i∉E.map Prod.fst:=fun hm=>by
        obtain⟨x,hx,e⟩:=List.mem_map.1 hm
        have:=(hE.mem x hx).1
        rw[e,Cq]at this;cases this
      have gY:=hE.ready ow tX
      have mD:=(mem_ready.1 gY).1
      obtain⟨f',rfl,jM⟩:=ja mD hfuel
      have hfree:=mG (l':=la) g7.1 (fun k hk=>hE.more hk)
      have z4:(Region.ready .any ops la).contains i=true:=by simpa using gY
      refine bT.take fm (S0:=Own g []) jB hs hfree z4 (fun _ _ _ h=>h) (fun w hw X _ oj fc=>⟨fun _=>rfl,fun _=>⟨hw,fun _ h=>h⟩⟩) (fun j oj w w' fc hj hno h0 hk=>?_) (.inr ⟨jV false Nn ow,rfl⟩) (Own.dz.2 hw).bu ?_
      · cases rE:om oj.op
        · exact((hk R rZ oj fc).2 rE).1
        · rw[(hk R rZ oj fc).1 rE];exact h0
      · refine cF hs rZ A4 pI hk f' pa cl _ _ H h E _ _ jM (hE.step hs jB ow oA _) (fm.step gY) _ w (ha.put hd _) hw ?_ (hout _)
        rintro⟨k,ok,ou,lJ,kD⟩
        exact hR ⟨k,ok,ou,lJ,dD mD kD⟩
    rename_i Nn
    have Mo:=jV true Nn
    have G7:∀v f' uD a' w',(cond (Nat.beq m 0) (jO P g n ops R K pa cl (listed.setIfInBounds i true) (bc fr o.dst v) H)
                    (Br v (jO P g n ops R K pa cl (listed.setIfInBounds i true) (bc fr o.dst (.bool true)) H) (jO P g n ops R K pb cl (listed.setIfInBounds i true) (bc fr o.dst (.bool false)) H)))→
        cnt uD.toList≤f'→gH P n ops cl (listed.setIfInBounds i true) uD E (bc fr o.dst v) (bc fa o.dst v)→cU .any ops uD→bH ds n a' (bc fa o.dst v)→Own (g.add (Hq E)) H w'→
        ((∃k ok,ops[k]? =some ok∧pE P ok.op=true∧uD.getD k true=false)→Own g R w')→f'<fuel→bT P .any ops (l8 Q) (kL P g Xs ops) f' uD a' w':=by
      intro v f' uD a' w' hv h1 h2 CX h3 h4 h5 hlt
      cases hm:Nat.beq m 0<;>simp only[hm,cond_true,cond_false]at hv
      · obtain⟨b,rfl,Ms,pH⟩:=hv
        cases b
        · exact cF hs rZ A4 pI hk f' pb cl _ _ H (pH rfl) E uD _ h1 h2 CX a' w' h3 h4 h5 (hout _)
        · exact cF hs rZ A4 pI hk f' pa cl _ _ H (Ms rfl) E uD _ h1 h2 CX a' w' h3 h4 h5 (hout _)
      · exact cF hs rZ A4 pI hk f' pa cl _ _ H hv E uD _ h1 h2 CX a' w' h3 h4 h5 (hout _)
    cases h3:Nat.beq m 3<;>simp only[h3,cond_true,cond_false]at h
    case true=>
      cases g7:(zL o&&Region.free .any ops listed i)<;>simp only[g7,cond_true,cond_false]at h
      simp only[Bool.and_eq_true]at g7
      split at h<;>try exact h.elim
      rename_i b Im
      have s4:om o.op=true:=B5 g7.1
      have ow:i∉E.map Prod.fst:=fun hm=>by
        obtain⟨x,hx,e⟩:=List.mem_map.1 hm
        have h2:=hE.mem x hx
        obtain⟨o',fo⟩:=hE.cl _ _ h2.1 h2.2
        have h3:=fo.op
        rw[e,jB]at h3;cases h3
        have:=fo.sG
        rw[s4]at this;cases this
      have gY:=hE.ready ow tX
      have mD:=(mem_ready.1 gY).1
      obtain⟨f',rfl,jM⟩:=ja mD hfuel
      have hfree:=mG (l':=la) g7.2 (fun k hk=>hE.more hk)
      have z4:(Region.ready .any ops la).contains i=true:=by simpa using gY
      have oo:∀w,kL P g Xs ops i w w:=fun w X _ oj iz=>⟨fun _=>rfl,fun hn=>(by rw[jB]at iz;cases iz;rw[s4]at hn;cases hn)⟩
      have zW:=hE.exec (hap ow) hsel
      refine bT.take fm (S0:=Own g []) jB hs hfree z4 (fun _ _ _ h=>h) (fun w _=>oo w) (fun j oj w w' fc hj hno h0 hk=>?_) (.inl ⟨Mo ow,fun w' de=>by rw[ha.eval,zW];exact B2 g7.1 Im w'⟩) (Own.dz.2 hw).bu ?_
      · cases rE:om oj.op
        · exact((hk R rZ oj fc).2 rE).1
        · rw[(hk R rZ oj fc).1 rE];exact h0
      · refine cF hs rZ A4 pI hk f' pa cl _ _ H h E _ _ jM (hE.step hs jB ow oA _) (fm.step gY) _ w (ha.put hd _) hw ?_ (hout _)
        rintro⟨k,ok,ou,lJ,kD⟩
        exact hR ⟨k,ok,ou,lJ,dD mD kD⟩
    cases s4:om o.op<;>simp only[s4,cond_true,cond_false]at h
    case true=>
      cases g7:(Region.free .any ops listed i)<;>simp only[g7,cond_true,cond_false]at h
      have ow:i∉E.map Prod.fst:=fun hm=>by
        obtain⟨x,hx,e⟩:=List.mem_map.1 hm
        have h2:=hE.mem x hx
        obtain⟨o',fo⟩:=hE.cl _ _ h2.1 h2.2
        have h3:=fo.op
        rw[e,jB]at h3;cases h3
        have:=fo.sG
        rw[s4]at this;cases this
      have gY:=hE.ready ow tX
      have mD:=(mem_ready.1 gY).1
      obtain⟨f',rfl,jM⟩:=ja mD hfuel
      have hfree:=mG (l':=la) g7 (fun k hk=>hE.more hk)
      have z4:(Region.ready .any ops la).contains i=true:=by simpa using gY
      have oo:∀w,kL P g Xs ops i w w:=fun w X _ oj iz=>⟨fun _=>rfl,fun hn=>(by rw[jB]at iz;cases iz;rw[s4]at hn;cases hn)⟩
      have hst:=fun v=>hE.step hs jB ow oA v
      have zW:=hE.exec (hap ow) hsel
      cases hn:Kf P o.op
      case true=>
        rw[sF hn (ev fr) R []]at h
        obtain⟨v,hk',hr⟩:=gu h
        refine bT.take fm (S0:=Own g []) jB hs hfree z4 (fun _ _ _ h=>h) (fun w _=>oo w) (fun j oj w w' fc hj hno h0 hk=>?_) (.inl ⟨Mo ow,fun w' de=>by rw[ha.eval,zW];exact hr w' de⟩) (Own.dz.2 hw).bu ?_
        · cases rE:om oj.op
          · exact((hk R rZ oj fc).2 rE).1
          · rw[(hk R rZ oj fc).1 rE];exact h0
        · refine G7 v f' _ _ w hk' jM (hst v) (fm.step gY) (ha.put hd v) hw ?_ (by omega)
          rintro⟨k,ok,ou,lJ,kD⟩
          exact hR ⟨k,ok,ou,lJ,dD mD kD⟩
      case false=>
        obtain⟨v,hk',hr⟩:=gu h
        have hrd:pE P o.op=true:=by simp[pE,s4,hn]
        have IQ:Own g R w:=hR ⟨i,o,jB,hrd,mD⟩
        refine bT.take fm (S0:=Own g R) jB hs hfree z4 (fun _ _ _ h=>h) (fun w _=>oo w) (fun j oj w w' fc hj hno h0 hk=>?_) (.inl ⟨Mo ow,fun w' de=>by rw[ha.eval,zW];exact hr w' de⟩) IQ ?_
        · cases rE:om oj.op
          · exact((hk R rZ oj fc).2 rE).2 (gQ jB hrd hj hno) h0
          · rw[(hk R rZ oj fc).1 rE];exact h0
        · exact G7 v f' _ _ w hk' jM (hst v) (fm.step gY) (ha.put hd v) hw (fun _=>IQ) (by omega)
    case false=>
      cases g7:(Region.ready .any ops (marks cl i listed)==[i])<;>simp only[g7,cond_true,cond_false]at h
      have hrd:=beq_iff_eq.1 g7
      by_cases ow:i∈E.map Prod.fst
      · obtain⟨⟨i',b,x⟩,hx,e⟩:=List.mem_map.1 ow
        simp only at e;subst e
        have hex:c4 cl i'=some x:=(hE.mem _ hx).1
        simp only[hex]at h
        obtain⟨E1,E2,rfl⟩:=List.append_of_mem hx
        have kO:Own (g.add (Hq (E1++E2))) ((b,x.1)::H) w:=by
          have h1:=(Own.dz.2 hw).perm ((List.Perm.append_left H (Aj (E1:=E1) (E2:=E2) (y:=(i',b,x)))).trans List.perm_middle)
          exact(Own.dz (A:=(b,x.1)::H)).1 h1
        have hb:b∉H.map Prod.fst:=by
          have:=kO.nd
          rw[List.cons_append,List.map_cons,List.nodup_cons,List.map_append,List.mem_append]at this
          exact fun h=>this.1 (.inl h)
        exact cF hs rZ A4 pI hk fuel pa cl _ _ _ (h b hb) (E1++E2) la fa hfuel (hE.qS hs jB oA) fm a w ha kO hR (hout _)
      · have gY:=hE.ready ow tX
        have mD:=(mem_ready.1 gY).1
        obtain⟨f',rfl,jM⟩:=ja mD hfuel
        have KQ:∀j,la.getD j true=false→cnt (la.setIfInBounds j true).toList≤f':=fun j hj=>by
          obtain⟨f2,h1,h2⟩:=ja hj hfuel
          have:f2=f':=by omega
          subst this;exact h2
        have hst:=fun v=>hE.step hs jB ow oA v
        have zW:=hE.exec (hap ow) hsel
        refine bT.all rfl (fun e=>by rw[e]at gY;simp at gY) fun j hj=>?_
        by_cases KE:j=i
        · subst KE
          have sG:∀oj,ops[j]? =some oj→om oj.op=true→False:=fun oj fc hp=>by rw[jB]at fc;cases fc;rw[s4]at hp;cases hp
          unfold wpOp
          simp only[jB,Mo ow,if_true]
          refine .inl ?_
          unfold Oper.wp
          rw[ha.eval,zW]
          cases hex:c4 cl j with
          |none=>
            simp only[hex]at h
            have h:=h (Hq E)
            refine(nZ (jE fr) h w hw).upon (fun v H' w' bO hb=>?_) (fun ch H' w' _ h0=>h0.elim)
            obtain⟨he,hk'⟩:=hb.of
            have La:mU P ops j=true→Own g R w':=fun hn=>(Own.dz.2 (he (BS hn) _ _ bO)).left
            refine⟨fun X hX oj iz=>⟨fun hp=>(sG oj iz hp).elim,fun _=>⟨(Own.dz.2 bO).bu,fun hn _=>A4 X hX _ _ (La hn)⟩⟩,cF hs rZ A4 pI hk f' pa cl _ _ H' hk' E _ _ jM (hst v) (fm.step gY) _ w' (ha.put hd v) bO ?_ (hout v)⟩
            rintro⟨k,ok,ou,lJ,kD⟩
            refine La ?_
            have IA:j≠k:=fun e=>by
              subst e
              have h1:=dm mD
              have hlt:=(Array.getElem?_eq_some_iff.1 h1).1
              rw[Array.getD_eq_getD_getElem?,Array.getElem?_setIfInBounds_self_of_lt hlt]at kD
              cases kD
            rw[getD_set_ne true IA]at kD
            refine gQ ou lJ IA fun hw=>?_
            rw[fm.ready gY hw]at kD;cases kD
          |some x=>
            simp only[hex]at h
            obtain⟨oj,fo⟩:=hE.cl j x hex hun
            have fc:=fo.op
            rw[jB]at fc;cases fc
            rw[fo.makes w]
            simp only[Oper.upon]
            have G9:∀{A:Hp},Own g A w→Own g A (w.alloc x.1):=fun hA=>(hA.alloc x.1).tail
            refine⟨fun X _ oj iz=>⟨fun hp=>(sG oj iz hp).elim,fun _=>⟨G9 (Own.dz.2 hw).bu,fun _ h1=>G9 h1⟩⟩,?_⟩
            refine cF hs rZ A4 pI hk f' pa cl _ _ _ (h _ hw.fresh) E _ _ jM (hst _) (fm.step gY) _ _ (ha.put hd _) (hw.alloc x.1) ?_ (hout _)
            rintro⟨k,ok,ou,lJ,kD⟩
            exact G9 (hR ⟨k,ok,ou,lJ,dD mD kD⟩)
        · obtain⟨Cw,IB⟩:=JQ j hj
          cases KF:c4 cl j with
          |some x=>exact early f' rfl KQ j x hj KF
          |none=>
          refine absurd ?_ KE
          have Mj:j∉cl.map Prod.fst:=fun hm=>by
            obtain⟨x,hx⟩:=Ag hm
            rw[KF]at hx;cases hx
          have PO:j∈Region.ready .any ops (marks cl i listed):=by
            obtain⟨_,oj,fc,aD⟩:=mem_ready.1 hj
            rw[mem_ready]
            refine⟨?_,oj,fc,fun e he hb=>?_⟩
            · rw[Array.getD_eq_getD_getElem?,qc,if_neg (fun h=>Mj h.1),←Array.getD_eq_getD_getElem?];exact IB
            · have h1:=aD e he hb
              have h2:=hE.la e.on
              rw[Array.getD_eq_getD_getElem?]at h1⊢
              rw[qc]
              by_cases hm:e.on∈E.map Prod.fst
              · obtain⟨x,hx,e2⟩:=List.mem_map.1 hm
                have PN:=dm (hE.mem x hx).2
                rw[e2]at PN
                have hlt:=(Array.getElem?_eq_some_iff.1 PN).1
                rw[if_pos ⟨e2▸fM (hE.mem x hx).1,fun e3=>ow (e3▸hm),hlt⟩];rfl
              · rw[if_neg hm]at h2
                split
                · rfl
                · rw[←h2];exact h1
          rw[hrd]at PO
          simpa using PO
  termination_by fuel l=>(fuel,SizeOf.sizeOf l)
def nq:Code→Nat→Bool
  | .region _ ops _,s=>aX ops.toList s
  | .seq a b,s=>nq a s||nq b s
  | .cond _ a b,s=>nq a s||nq b s
  | .block _ c,s=>nq c s
  | .loop c,s=>nq c s
  | .skip,_=>false
  | .ret,_=>false
  | .exit _,_=>false
  |_,_=>true
def E5(c:Code):List Nat→Bool
  | []=>true
  |s::r=> !nq c s&&E5 c r
def oJ(s:Nat):List Nat→Bool
  | []=>false
  |x::r=>Nat.beq s x||oJ s r
def E7:List Nat→List Value→Fr→Fr
  |l::L,v::vs,base=>fun s=>cond (Nat.beq s l) v (E7 L vs base s)
  |_,_,base=>base
def mix(L:List Nat)(vs:List Value)(I:List Nat)(fr gs:Fr):Fr:=E7 L vs fun s=>cond (oJ s I) (fr s) (gs s)
def uc(fr:Fr):List Nat→List Value
  | []=>[]
  |s::r=>fr s::uc fr r
def py:Nat→(List Value→Prop)→Prop
  |0,p=>p []
  |n+1,p=>∀v,py n fun vs=>p (v::vs)
theorem py.intro{p:List Value→Prop}(h:∀vs,p vs):∀n,py n p
  |0=>h _
  |n+1=>fun v=>py.intro (fun vs=>h (v::vs)) n
theorem py.elim{p:List Value→Prop}:∀{n:Nat},py n p→∀vs:List Value,vs.length=n→p vs
  |0,h,vs,e=>by cases vs with|nil=>exact h|cons x y=>simp at e
  |n+1,h,vs,e=>by
    cases vs with
    |nil=>simp at e
    |cons x y=>exact py.elim (h x) y (by simpa using e)
theorem uT(fr:Fr)(L:List Nat):(uc fr L).length=L.length:=by induction L<;>simp[uc, *]
theorem n8{L I:List Nat}{fr fr':Fr}(h:∀s,oJ s I=true→fr' s=fr s):mix L (uc fr' L) I fr fr'=fr':=by
  funext s
  unfold mix
  induction L with
  |nil=>
    simp only[uc,E7]
    cases he:oJ s I
    · rfl
    · exact(h s he).symm
  |cons l L ih=>
    simp only[uc,E7]
    cases hb:Nat.beq s l
    · exact ih
    · have:=Nat.eq_of_beq_eq_true hb;subst this;rfl
theorem n5{c:Code}{I:List Nat}(h:E5 c I=true):∀s,oJ s I=true→nq c s=false:=by
  induction I with
  |nil=>intro s hs;simp[oJ]at hs
  |cons x r ih=>
    intro s hs
    simp only[E5,Bool.and_eq_true,Bool.not_eq_true']at h
    simp only[oJ,Bool.or_eq_true]at hs
    rcases hs with hs|hs
    · rw[Nat.eq_of_beq_eq_true hs];exact h.1
    · exact ih h.2 s hs
def r8(next:Fr→Hp→Prop)(Q:Exit→Fr→Hp→Prop):Exit→Fr→Hp→Prop
  | .normal,fr,H=>next fr H
  |e,fr,H=>Q e fr H
def DI(id:Nat)(Q:Exit→Fr→Hp→Prop):Exit→Fr→Hp→Prop
  | .exit id',fr,H=>cond (Nat.beq id' id) (Q .normal fr H) (Q (.exit id') fr H)
  |e,fr,H=>Q e fr H
def JE(J:List Value→Hp→Prop)(vs:List Value)(H:Hp):Prop:=∃H',aR H H'∧J vs H'
def aB(I:List Value→Hp→Prop)(m:List Value→Hp→Nat)(vs':List Value)(H':Hp)(vs:List Value)(H:Hp):Prop:=∃jQ,aR H' jQ∧I vs' jQ∧m vs' jQ<m vs H
def Loop(L:List Nat)(vs:List Value)(H:Hp)(body:(List Value→Hp→Prop)→List Value→Hp→Prop):Prop:=
  ∃(I:List Value→Hp→Prop) (m:List Value→Hp→Nat),JE I vs H∧py L.length fun vs=>∀H',I vs H'→body (fun vs' jQ=>aB I m vs' jQ vs H') vs H'
def L0(k:Nat)(rest:List Value→Hp→Prop)(body:(List Value→Hp→Prop)→Prop):Prop:=
  ∀J:List Value→Hp→Prop,(py k fun vs=>∀H,rest vs H→J vs H)→body J
def DR(H:Hp)(body:Hp→Prop):Prop:=∃R,aR H R∧body R
def Qy(H R:Hp)(body:Hp→Prop):Prop:=∃R',aR H R'∧aR R' R∧body R'
def ki:Code→Nat→Option (Array Oper)
  | .region id ops _,k=>cond (Nat.beq id k) (some ops) none
  | .seq a b,k=>match ki a k with|some x=>some x|none=>ki b k
  | .cond _ a b,k=>match ki a k with|some x=>some x|none=>ki b k
  | .block _ c,k=>ki c k
  | .loop c,k=>ki c k
  |_,_=>none
def I7(P:Program)(g:Gh)(id:Nat)(ops:Array Oper)(L:List Nat)(vs:List Value)(H:Hp)(K:Hp→Prop):Prop:=
  ∀a w,eU a.tmps.size ops.toList=true→(L.map fun s=>a.tmps.getD s undef)=vs→Own g H w→
    (Code.region id ops true).wp P (fun e a' w'=>e=.normal∧a'.defers=a.defers∧a'.tmps.size=a.tmps.size∧(∀s,aX ops.toList s=false→a'.tmps.getD s undef=a.tmps.getD s undef)∧∃H',Own g H' w'∧K H') a w
def jL(f:Func)(r:Nat):Array Oper:=match f.body with|some c=>(match ki c r with|some ops=>ops|none=>#[])|none=>#[]
theorem F8(fr:Fr)(L:List Nat):uc fr L=L.map fr:=by induction L<;>simp[uc, *]
def den(P:Program)(g:Gh)(n:Nat):Code→Hn→(Exit→Fr→Hp→Prop)→Fr→Hp→Prop
  | .skip,_,Q,fr,H=>Q .normal fr H
  | .ret,_,Q,fr,H=>Q .ret fr H
  | .exit id,_,Q,fr,H=>Q (.exit id) fr H
  | .seq x y,hn,Q,fr,H=>
    match hn.m with
    |0=>den P g n x hn.a (r8 (den P g n y hn.b Q) Q) fr H
    |_=>cond (E5 x hn.I)
        (L0 hn.L.length (fun vs H'=>∀gs,den P g n y hn.b Q (mix hn.L vs hn.I fr gs) H') fun J=>den P g n x hn.a (r8 (fun fr' H'=>JE J (uc fr' hn.L) H') Q) fr H) False
  | .cond c x y,hn,Q,fr,H=>Br (ev fr c) (den P g n x hn.a Q fr H) (den P g n y hn.b Q fr H)
  | .block id c,hn,Q,fr,H=>den P g n c hn.a (DI id Q) fr H
  | .loop c,hn,Q,fr,H=>
    cond (E5 c hn.I)
      (Loop hn.L (uc fr hn.L) H fun J vs H'=>∀gs,den P g n c hn.a (r8 (fun fr' jQ=>J (uc fr' hn.L) jQ) Q) (mix hn.L vs hn.I fr gs) H') False
  | .region id ops draw,hn,Q,fr,H=>
    cond draw
      (match hn.m with
      |0=>match hn.L with
       | []=>cond (P.follows .mixedOrders&&Region.lexB .any ops) (cM P g n ops true (ops.toList.length+1) true none [] ops.toList fr H (fun _ fr' H'=>Q .normal fr' H') (fun _ _=>False)) False
       |l=>cond (P.follows .mixedOrders&&Region.noSelect ops&&Nat.ble l.length ops.size)
          (DR H fun R=>An P g n ops R (fun fr' H'=>Q .normal fr' H') l (Array.replicate ops.size false) fr H) False
      |9=>cond (eU n ops.toList) (I7 P g id ops hn.L (uc fr hn.L) H fun H'=>∀gs,Q .normal (rL ops.toList gs fr) H') False
      |_=>cond (P.follows .mixedOrders&&Region.noSelect ops)
          (DR H fun R=>jO P g n ops R (fun fr' H'=>Q .normal fr' H') hn.a [] (Array.replicate ops.size false) fr H) False)
      (cM P g n ops (match hn.I with| []=>false|_=>true) (ops.toList.length+1) false none [] ops.toList fr H (fun _ fr' H'=>Q .normal fr' H') (fun ch H'=>∀fr',Q (.panic ch) fr' H'))
  |_,_,_,_,_=>False
theorem r4{c:Code}{Q:Exit→Act→World→Prop}{a:Act}{w:World}(R:Act→World→Nat→Prop)(h₀:∃m,R a w m)
   (round:∀a w m,R a w m→c.wp P (Exit.then (fun a' w'=>∃m',m'<m∧R a' w' m') Q) a w):(Code.loop c).wp P Q a w:=by
  intro b k cs
  have key:∀n a w,R a w n→
      ∃e a' w',Q e a' w'∧Arrives P (lone (b.at a (.code c:: .inLoop c::k)) cs w) b k cs e a' w':=by
    intro n
    induction n using Nat.strongRecOn with
    |_ n ih=>
      intro a w hI
      obtain⟨e,a₁,w₁,hq,s5⟩:=round a w n hI b (.inLoop c::k) cs
      cases e with
      |normal=>
        obtain⟨m',hlt,Lr⟩:=hq
        obtain⟨e₂,a₂,w₂,Ko,FN⟩:=ih m' hlt a₁ w₁ Lr
        exact⟨e₂,a₂,w₂,Ko,.of_steps (Steps.trans s5 (.one step_inLoop)) FN⟩
      |exit id=>exact⟨_,a₁,w₁,hq,.pass (x:=.inLoop c) rfl (fun _ _=>.inl (by simp)) s5⟩
      |goto l=>exact⟨_,a₁,w₁,hq,.pass (x:=.inLoop c) rfl (fun _ _=>.inl (by simp)) s5⟩
      |ret=>exact⟨_,a₁,w₁,hq,.pass (x:=.inLoop c) rfl (fun _ _=>.inl (by simp)) s5⟩
      |panic ch=>exact⟨_,a₁,w₁,hq,.pass (x:=.inLoop c) rfl (fun _ _=>.inl (by simp)) s5⟩
      |outgrown=>exact⟨_,a₁,w₁,hq,.pass (x:=.inLoop c) rfl (fun _ _=>.inl (by simp)) s5⟩
  obtain⟨m,h₀⟩:=h₀
  obtain⟨e,a',w',hq,s5⟩:=key m a w h₀
  exact⟨e,a',w',hq,.of_steps (.one step_loop) s5⟩
def oh:Exit→Bool
  | .panic _=>true
  |_=>false
theorem gD{n:Nat}:∀(c:Code) (hn:Hn) (Q:Exit→Fr→Hp→Prop) (fr:Fr) (H:Hp),den P g n c hn Q fr H→∀(a:Act) (w:World),bH ds n a fr→Own g H w→c.wp P (fun e a' w'=>∃fr' H',bH ds n a' fr'∧Own g H' w'∧(oh e=false→∀s,nq c s=false→fr' s=fr s)∧Q e fr' H') a w:=by
  intro c
  induction c with
  |skip=>intro hn Q fr H h a w ha hw;exact wp_skip ⟨fr,H,ha,hw,fun _ _ _=>rfl,h⟩
  |ret=>intro hn Q fr H h a w ha hw;exact wp_ret ⟨fr,H,ha,hw,fun _ _ _=>rfl,h⟩
  |exit id=>intro hn Q fr H h a w ha hw;exact wp_exit ⟨fr,H,ha,hw,fun _ _ _=>rfl,h⟩
  |seq x y L8 L7=>
    intro hn Q fr H h a w ha hw
    unfold den at h
    have JZ:∀{F9 m7:Fr},(∀s,nq x s=false→F9 s=fr s)→(∀s,nq y s=false→m7 s=F9 s)→∀s,nq (.seq x y) s=false→m7 s=fr s:=fun h1 h2 s hs=>by
      simp only[nq,Bool.or_eq_false_iff]at hs
      rw[h2 s hs.2,h1 s hs.1]
    have pD:∀{F9:Fr},(∀s,nq x s=false→F9 s=fr s)→∀s,nq (.seq x y) s=false→F9 s=fr s:=fun h1 s hs=>by
      simp only[nq,Bool.or_eq_false_iff]at hs
      exact h1 s hs.1
    split at h
    · refine wp_seq (wp_mono (L8 _ _ fr H h a w ha hw) ?_)
      rintro e a' w' ⟨fr',H',cI,de,ho,hq⟩
      cases e with
      |normal=>exact wp_mono (L7 _ _ fr' H' hq a' w' cI de) fun e2 a2 w2 ⟨m7,H2,g1,g2,g3,g4⟩=>⟨m7,H2,g1,g2,fun hp=>JZ (ho rfl) (g3 hp),g4⟩
      |exit id=>exact⟨fr',H',cI,de,fun hp=>pD (ho hp),hq⟩
      |goto l=>exact⟨fr',H',cI,de,fun hp=>pD (ho hp),hq⟩
      |ret=>exact⟨fr',H',cI,de,fun hp=>pD (ho hp),hq⟩
      |panic ch=>exact⟨fr',H',cI,de,fun hp=>pD (ho hp),hq⟩
      |outgrown=>exact⟨fr',H',cI,de,fun hp=>pD (ho hp),hq⟩
    · cases hno:E5 x hn.I<;>simp only[hno,cond_true,cond_false]at h
      have h':=h (fun vs H'=>∀gs,den P g n y hn.b Q (mix hn.L vs hn.I fr gs) H') (py.intro (fun vs H' hh=>hh) _)
      refine wp_seq (wp_mono (L8 _ _ fr H h' a w ha hw) ?_)
      rintro e a' w' ⟨fr',H',cI,de,ho,hq⟩
      cases e with
      |normal=>
        obtain⟨Hj,mE,hq⟩:=hq
        have Mg:den P g n y hn.b Q fr' Hj:=by
          have:=hq fr'
          rwa [n8 fun s hs=>ho rfl s (n5 hno s hs)]at this
        exact wp_mono (L7 _ _ fr' Hj Mg a' w' cI (mE _ _ de)) fun e2 a2 w2 ⟨m7,H2,g1,g2,g3,g4⟩=>⟨m7,H2,g1,g2,fun hp=>JZ (ho rfl) (g3 hp),g4⟩
      |exit id=>exact⟨fr',H',cI,de,fun hp=>pD (ho hp),hq⟩
      |goto l=>exact⟨fr',H',cI,de,fun hp=>pD (ho hp),hq⟩
      |ret=>exact⟨fr',H',cI,de,fun hp=>pD (ho hp),hq⟩
      |panic ch=>exact⟨fr',H',cI,de,fun hp=>pD (ho hp),hq⟩
      |outgrown=>exact⟨fr',H',cI,de,fun hp=>pD (ho hp),hq⟩
  |cond c x y L8 L7=>
    intro hn Q fr H h a w ha hw
    obtain⟨b,hb,ht,hf⟩:=h
    refine wp_cond_split (t:=b) (by rw[ha.eval];exact hb) (fun e=>?_) (fun e=>?_)
    · exact wp_mono (L8 _ _ fr H (ht e) a w ha hw) fun e2 a2 w2 ⟨m7,H2,g1,g2,g3,g4⟩=>⟨m7,H2,g1,g2,fun hp s hs=>g3 hp s (by simp only[nq,Bool.or_eq_false_iff]at hs;exact hs.1),g4⟩
    · exact wp_mono (L7 _ _ fr H (hf e) a w ha hw) fun e2 a2 w2 ⟨m7,H2,g1,g2,g3,g4⟩=>⟨m7,H2,g1,g2,fun hp s hs=>g3 hp s (by simp only[nq,Bool.or_eq_false_iff]at hs;exact hs.2),g4⟩
  |block id c ih=>
    intro hn Q fr H h a w ha hw
    refine wp_block (wp_mono (ih _ _ fr H h a w ha hw) ?_)
    rintro e a' w' ⟨fr',H',cI,de,ho,hq⟩
    cases e with
    |exit id'=>
      simp only[DI]at hq
      cases hb:Nat.beq id' id<;>simp only[hb,cond_true,cond_false]at hq
      · have:id'≠id:=fun e=>by subst e;simp at hb
        simp only[Exit.inBlock,this,if_false]
        exact⟨fr',H',cI,de,ho,hq⟩
      · have:=Nat.eq_of_beq_eq_true hb
        simp only[Exit.inBlock,this,if_true]
        exact⟨fr',H',cI,de,ho,hq⟩
    |normal=>exact⟨fr',H',cI,de,ho,hq⟩
    |goto l=>exact⟨fr',H',cI,de,ho,hq⟩
    |ret=>exact⟨fr',H',cI,de,ho,hq⟩
    |panic ch=>exact⟨fr',H',cI,de,ho,hq⟩
    |outgrown=>exact⟨fr',H',cI,de,ho,hq⟩
  |loop c ih=>
    intro hn Q fr H h a w ha hw
    unfold den at h
    cases hno:E5 c hn.I<;>simp only[hno,cond_true,cond_false]at h
    obtain⟨I,m,⟨H0,KL,h0⟩,hr⟩:=h
    refine r4 (fun a w k=>∃fr' H',bH ds n a fr'∧Own g H' w∧(∀s,nq c s=false→fr' s=fr s)∧I (uc fr' hn.L) H'∧m (uc fr' hn.L) H'=k) ⟨_,fr,H0,ha,KL _ _ hw,fun _ _=>rfl,h0,rfl⟩ ?_
    rintro a w k ⟨F9,H1,s6,kO,zN,hI,rfl⟩
    have hb:=hr.elim (uc F9 hn.L) (uT _ _) H1 hI F9
    rw[n8 fun s hs=>zN s (n5 hno s hs)]at hb
    refine wp_mono (ih _ _ F9 H1 hb a w s6 kO) ?_
    rintro e a' w' ⟨fr',H',cI,de,ho,hq⟩
    have bO:oh e=false→∀s,nq c s=false→fr' s=fr s:=fun hp s hs=>(ho hp s hs).trans (zN s hs)
    cases e with
    |normal=>obtain⟨Hj,mE,Fy,NI⟩:=hq;exact⟨_,NI,fr',Hj,cI,mE _ _ de,bO rfl,Fy,rfl⟩
    |exit id=>exact⟨fr',H',cI,de,bO,hq⟩
    |goto l=>exact⟨fr',H',cI,de,bO,hq⟩
    |ret=>exact⟨fr',H',cI,de,bO,hq⟩
    |panic ch=>exact⟨fr',H',cI,de,bO,hq⟩
    |outgrown=>exact⟨fr',H',cI,de,bO,hq⟩
  |region id ops draw=>
    intro hn Q fr H h a w ha hw
    unfold den at h
    cases draw<;>simp only[cond_true,cond_false]at h
    case false=>
      refine wp_region_list ?_
      have:=bK _ _ _ _ _ fr H _ _ h trivial (eY.nil fr) a w ha hw [] (fun e a' w'=>∃fr' H',bH ds n a' fr'∧Own g H' w'∧(oh e=false→∀s,nq (.region id ops false) s=false→fr' s=fr s)∧Q e fr' H') ?_ ?_
      · simpa using this
      · intro a' w' kN fr' H' h1 h2 h3 _ h4
        exact⟨fr',H',h1,h2,fun _=>h3,h4⟩
      · intro ch a' w' fr' H' h1 h2 h3
        exact⟨fr',H',h1,h2,fun hp=>by simp[oh]at hp,h3 fr'⟩
    case true=>
      split at h
      · split at h
        · cases hc:(P.follows .mixedOrders&&Region.lexB .any ops)<;>simp only[hc,cond_true,cond_false]at h
          simp only[Bool.and_eq_true]at hc
          refine wp_region_quiet (C:=Own g H) hc.1 hc.2 hw.qx ?_
          have:=cr _ none _ ops.toList fr H _ _ h trivial (eY.nil fr) a ha [] (fun a'=>∀w',Own g H w'→∃fr' H',bH ds n a' fr'∧Own g H' w'∧(oh .normal=false→∀s,nq (.region id ops true) s=false→fr' s=fr s)∧Q .normal fr' H') ?_
          · simpa using this
          · intro a' kN fr' h1 h3 _ h4
            exact fun w' de=>⟨fr',H,h1,de,fun _=>h3,h4⟩
        · cases hc:(P.follows .mixedOrders&&Region.noSelect ops&&Nat.ble hn.L.length ops.size)<;>simp only[hc,cond_true,cond_false]at h
          simp only[Bool.and_eq_true]at hc
          obtain⟨R,hR,h⟩:=h
          refine wp_mono (Q:=l8 fun e a' w'=>∃fr' H',bH ds n a' fr'∧Own g H' w'∧(oh e=false→∀s,nq (.region id ops true) s=false→fr' s=fr s)∧Q e fr' H') ?_ ?_
          · refine wp_region_any hc.1.1 (bT.any (S:=y2 P g R ops) ?_)
            exact lR hc.1.2 fr (fun a w fr' H' h1 h2 h3 h4=>⟨fr',H',h1,h2,fun _=>h3,h4⟩) _ _ fr H h _ (Nat.le_of_ble_eq_true hc.2) (cU.none _ rfl) _ _ ha hw.qx (fun _=>(hR _ _ hw).qx) (cG.refl _ _)
          · intro e a w h
            cases e<;>first|exact h|exact h.elim
      · cases hc:eU n ops.toList<;>simp only[hc,cond_true,cond_false]at h
        refine wp_mono (h a w (by rw[ha.size];exact hc) (by rw[F8];exact List.map_congr_left fun s _=>ha.get s) hw) ?_
        rintro e a' w' ⟨rfl,hd,hs,ho,H',de,hk⟩
        refine⟨rL ops.toList (fun s=>a'.tmps.getD s undef) fr,H',⟨hd.trans ha.defers,hs.trans ha.size,fun s=>?_⟩,de,fun _ s hs=>?_,hk _⟩
        · unfold rL
          cases hb:aX ops.toList s
          · rw[cond_false,ho s hb,ha.get]
          · rfl
        · unfold rL;simp only[nq]at hs;rw[hs,cond_false]
      · cases hc:(P.follows .mixedOrders&&Region.noSelect ops)<;>simp only[hc,cond_true,cond_false]at h
        simp only[Bool.and_eq_true]at hc
        obtain⟨R,hR,h⟩:=h
        refine wp_mono (Q:=l8 fun e a' w'=>∃fr' H',bH ds n a' fr'∧Own g H' w'∧(oh e=false→∀s,nq (.region id ops true) s=false→fr' s=fr s)∧Q e fr' H') ?_ ?_
        · refine wp_region_any hc.1 (bT.any (S:=kL P g [R] ops) ?_)
          refine cF (Xs:=[_]) hc.2 (.head _) (fun X hX=>by rw[List.mem_singleton.1 hX];exact .refl _) fr (fun a w fr' H' h1 h2 h3 h4=>⟨fr',H',h1,h2,fun _=>h3,h4⟩) _ _ [] _ fr H h [] _ fr (by rw[Array.toList_replicate,pJ];exact Nat.le_refl _) ⟨by simp,by simp,by simp,fun _ _=>rfl,by simp,fun j x hx=>by simp[c4]at hx⟩ (cU.none _ rfl) _ _ ha hw.qx (fun _=>(hR _ _ hw).qx) (cG.refl _ _)
        · intro e a w h
          cases e<;>first|exact h|exact h.elim
  |label l=>intro hn Q fr H h;exact h.elim
  |goto l=>intro hn Q fr H h;exact h.elim
  |scope c _=>intro hn Q fr H h;exact h.elim
  |refuse s=>intro hn Q fr H h;exact h.elim
  |rangeFunc f ps as b _ _=>intro hn Q fr H h;exact h.elim
def kG(R:Ending→Hp→Prop):List PanicEntry→Hp→Prop:=fun ch H=>∀_:Fr,R (.panicked ch) H
def tL:List PanicEntry→Hp→Prop:=fun _ _=>False
def nW:Code→Nat→Option (Array Oper)
  | .region id ops _,k=>cond (Nat.beq id k) (some ops) none
  | .seq a b,k=>match nW a k with|some x=>some x|none=>nW b k
  | .cond _ a b,k=>match nW a k with|some x=>some x|none=>nW b k
  | .block _ c,k=>nW c k
  | .loop c,k=>nW c k
  |_,_=>none
def dJ(f:Func)(r i:Nat):Oper:=match f.body with|some c=>(match nW c r with|some ops=>(match ops[i]? with|some o=>o|none=>default)|none=>default)|none=>default
def fH:List Value→Nat→Fr
  | [],_=>fun _=>undef
  |v::r,i=>fun s=>cond (Nat.beq s i) v (fH r (i+1) s)
def nU(P:Program)(fr:Fr)(H:Hp):List ResultVar→(List Value→Prop)→Prop
  | [],k=>k []
  | .tmp t::r,k=>nU P fr H r fun vs=>k (fr t::vs)
  | .cell a t::r,k=>match P.underlying t,cC P t with
    |some d,some n=>cond (bM d) (ay n H (fr a) fun v=>nU P fr H r fun vs=>k (v::vs)) (Ld H (fr a) fun v=>nU P fr H r fun vs=>k (v::vs))
    |_,_=>False
def uj:List Value→Value
  | [v]=>v
  |vs=>.tuple vs.toArray
def OW(P:Program)(fn:Func)(R:Ending→Hp→Prop):Exit→Fr→Hp→Prop
  | .normal,fr,H=>nU P fr H fn.results.toList fun vs=>R (.returned (uj vs)) H
  | .ret,fr,H=>nU P fr H fn.results.toList fun vs=>R (.returned (uj vs)) H
  | .panic ch,_,H=>R (.panicked ch) H
  |_,_,_=>False
def uY(P:Program)(g:Gh)(fn:Func)(hn:Hn)(args:List Value)(H:Hp)(R:Ending→Hp→Prop):Prop:=
  match fn.body with
  |some c=>cond (Nat.ble args.length fn.ntmps) (den P g fn.ntmps c hn (OW P fn R) (fH args 0) H) False
  |none=>False
theorem gX:∀(l:List Value) (i s:Nat),fH l i s=if s<i then undef else l.getD (s-i) undef
  | [],i,s=>by simp[fH]
  |v::r,i,s=>by
    simp only[fH,gX r (i+1) s]
    cases hb:Nat.beq s i
    · have hne:s≠i:=fun e=>by subst e;simp at hb
      simp only[cond_false]
      by_cases h:s<i
      · rw[if_pos (by omega),if_pos h]
      · rw[if_neg (by omega),if_neg h,show s-i=(s-(i+1))+1 by omega]
        simp[List.getD]
    · have:=Nat.eq_of_beq_eq_true hb;subst this
      simp[List.getD]
def zn(fr:Fr):ResultVar→Sem Value
  | .tmp t=>pure (fr t)
  | .cell b t=>do loadVar t (←asAddr (fr b))
theorem mY{fr:Fr}{H:Hp}{w:World}(hw:Own g H w){b:Tmp}{t:TypeId}{v:Value}{p:Addr}(hp:fr b=.pointer (some p))(h:(Instr.loadAt t (fr b)).run P w=.ok v w):(zn fr (.cell b t)).run P w=.ok v w:=by
  rw[hp]at h
  simp only[zn,hp,asAddr]
  simpa[Instr.loadAt,Instr.sureAddr]using h
theorem kZ{fr:Fr}{H:Hp}{w:World}(hw:Own g H w):∀(l:List ResultVar) (k:List Value→Prop),nU P fr H l k→
    ∃vs,(l.mapM (zn fr)).run P w=.ok vs w∧k vs
  | [],k,h=>⟨[],by simp,h⟩
  | .tmp t::r,k,h=>by
    obtain⟨vs,hr,hk⟩:=kZ hw r _ h
    refine⟨fr t::vs,?_,hk⟩
    simp only[List.mapM_cons,Sem.run_bind,Sem.run_pure,Result.andThen_ok,hr,zn]
  | .cell b t::r,k,h=>by
    unfold nU at h
    split at h<;>try exact h.elim
    rename_i d m hd hm
    obtain⟨i,hi,RA⟩:=aW hm
    cases Oo:bM d<;>simp only[Oo,cond_true,cond_false]at h
    · obtain⟨v,hk',hf⟩:=h.fix
      obtain⟨v2,rD,e⟩:=hf.run (P:=P) hw hd Oo
      subst e
      obtain⟨bb,off,c,T,fz,u,hp,_⟩:=hf
      obtain⟨vs,hr,hk⟩:=kZ hw r _ hk'
      refine⟨v2::vs,?_,hk⟩
      have:=mY hw hp rD
      simp only[List.mapM_cons,Sem.run_bind,Result.andThen_ok,hr,Sem.run_pure,this]
    · obtain⟨v,hk',hf⟩:=h.fix
      obtain⟨v2,rD,e⟩:=hf.run (P:=P) hw hd Oo hi RA
      subst e
      obtain⟨bb,off,c,T,fz,hp,_⟩:=hf
      obtain⟨vs,hr,hk⟩:=kZ hw r _ hk'
      refine⟨v2::vs,?_,hk⟩
      have:=mY hw hp rD
      simp only[List.mapM_cons,Sem.run_bind,Result.andThen_ok,hr,Sem.run_pure,this]
theorem eM{fn:Func}{fr:Fr}{H:Hp}{n:Nat}{a:Act}{w:World}(ha:bH ds n a fr)(hw:Own g H w){k:List Value→Prop}(h:nU P fr H fn.results.toList k):
    ∃vs,(results fn a.tmps).run P w=.ok (uj vs) w∧k vs:=by
  obtain⟨vs,hr,hk⟩:=kZ (P:=P) hw _ _ h
  refine⟨vs,?_,hk⟩
  have e:results fn a.tmps=(do let vs ←fn.results.mapM (zn fr);pure (if h:vs.size=1 then vs[0]else .tuple vs)):=by
    unfold results
    congr 1
    congr 1
    funext x
    cases x<;>simp only[zn,ha.get]
  rw[e,Array.mapM_eq_mapM_toList]
  simp only[Sem.run_bind,Sem.run_map,hr,Result.andThen_ok,Sem.run_pure]
  congr 1
  match vs with
  | []=>rfl
  | [v]=>rfl
  |a::b::r=>simp[uj]
theorem uX{f:FuncId}{fn:Func}{hn:Hn}{args:List Value}{H:Hp}{R:Ending→Hp→Prop}(hf:P.funcs[f]? =some fn)(h:uY P g fn hn args H R):bG P g f args.toArray H R:=by
  intro w hw
  unfold uY at h
  split at h<;>try exact h.elim
  rename_i c hc
  cases hl:Nat.ble args.length fn.ntmps<;>simp only[hl,cond_true,cond_false]at h
  have hle:=Nat.le_of_ble_eq_true hl
  refine calls_of_wp hf hc (wp_mono (gD c hn _ _ H h _ w ⟨rfl,?_,?_⟩ hw) ?_)
  · simp;omega
  · intro s
    rw[gX,Array.getD_eq_getD_getElem?,Array.getElem?_append]
    simp only[List.size_toArray,Nat.not_lt_zero,if_false,Nat.sub_zero]
    by_cases hs:s<args.length
    · simp[hs,List.getD]
    · rw[if_neg hs]
      rw[Array.getElem?_replicate]
      have:args.getD s undef=undef:=by simp[List.getD,List.getElem?_eq_none (Nat.le_of_not_lt hs)]
      rw[this]
      split<;>rfl
  · rintro e a' w' ⟨fr',H',cI,de,_,hq⟩
    cases e with
    |normal=>obtain⟨vs,hr,hk⟩:=eM cI de hq;exact⟨cI.defers,_,hr,H',de,hk⟩
    |ret=>obtain⟨vs,hr,hk⟩:=eM cI de hq;exact⟨cI.defers,_,hr,H',de,hk⟩
    |panic ch=>exact⟨cI.defers,H',de,hq⟩
    |exit id=>exact hq.elim
    |goto l=>exact hq.elim
    |outgrown=>exact hq.elim
end
end Go.Sx
namespace Go.Sx
open Go
section
variable {P:Program} {g:Gh} {H:Hp}
theorem Nil.ptr{a:Addr}{k:Value→Prop}(h:k (.pointer (some a))):Nil (.pointer (some a)) k:=⟨_,rfl,h⟩
theorem ag.mk{b o off:Nat}{k:Value→Prop}(h:k (.pointer (some ⟨b,o+off,none⟩))):ag off (.pointer (some ⟨b,o,none⟩)) k:=⟨b,o,rfl,h⟩
theorem Ld.mk{b off:Nat}{c:Array Value}{T:TypeId}{fz:Nat×Nat}{v:Value}{k:Value→Prop}(hm:(b,Obj.cells c T fz)∈H)(hc:c[off]? =some v)(h:k v):Ld H (.pointer (some ⟨b,off,none⟩)) k:=
 ⟨b,off,c,T,fz,v,rfl,hm,hc,h⟩
theorem ay.mk{b off n:Nat}{c:Array Value}{T:TypeId}{fz:Nat×Nat}{vs:Array Value}{k:Value→Prop}(hm:(b,Obj.cells c T fz)∈H)(hs:off+n≤c.size)(hc:c.extract off (off+n)=vs)(h:k (.agg vs)):ay n H (.pointer (some ⟨b,off,none⟩)) k:=
 ⟨b,off,c,T,fz,rfl,hm,hs,by rw[hc];exact h⟩
theorem St.mk{b off n:Nat}{c:Array Value}{T:TypeId}{x:Value}{c':Array Value}{H':Hp}{k:Hp→Prop}(hu:ct b (.cells c T (0,0)) (.cells c' T (0,0)) H H')(hx:x.cells.size=n)(hs:off+n≤c.size)
 (h1:∀v∈x.cells.toList,v.oneCell'=true)(hc:fE c off x.cells.toList=c')(h:k H'):St n H (.pointer (some ⟨b,off,none⟩)) x k:=
 ⟨b,off,c,T,H',rfl,hx,hs,h1,by rw[hc];exact hu,h⟩
theorem JE.mk{J:List Value→Hp→Prop}{vs:List Value}(h:J vs H):JE J vs H:=⟨H,.refl _,h⟩
theorem JE.of{J:List Value→Hp→Prop}{vs:List Value}{H':Hp}(e:aR H H')(h:J vs H'):JE J vs H:=⟨H',e,h⟩
theorem aB.mk{I:List Value→Hp→Prop}{m:List Value→Hp→Nat}{vs' vs:List Value}{H0:Hp}(h:I vs' H)(hm:m vs' H<m vs H0):aB I m vs' H vs H0:=⟨H,.refl _,h,hm⟩
theorem aB.of{I:List Value→Hp→Prop}{m:List Value→Hp→Nat}{vs' vs:List Value}{H' H0:Hp}(e:aR H H')(h:I vs' H')(hm:m vs' H'<m vs H0):aB I m vs' H vs H0:=⟨H',e,h,hm⟩
theorem Br.mk{b:Bool}{t f:Prop}(h1:b=true→t)(h2:b=false→f):Br (.bool b) t f:=⟨b,rfl,h1,h2⟩
theorem Br.yes{t f:Prop}(h1:t):Br (.bool true) t f:=⟨true,rfl,fun _=>h1,fun h=>by simp at h⟩
theorem Br.no{t f:Prop}(h1:f):Br (.bool false) t f:=⟨false,rfl,fun h=>by simp at h,fun _=>h1⟩
theorem Br.En{b:Bool}{t f:Prop}(hb:b=true)(h1:t):Br (.bool b) t f:=by subst hb;exact Br.yes h1
theorem Br.L4{b:Bool}{t f:Prop}(hb:b=false)(h1:f):Br (.bool b) t f:=by subst hb;exact Br.no h1
theorem c7.mk{a:Bool}{want:Bool}{inner els k:Bool→Prop}(t:Bool)(h1:a=want→inner t)(h2:a= !want→els t)(h3:k t):c7 (.bool a) want inner els k:=⟨a,t,rfl,h1,h2,h3⟩
theorem c7.and{a:Bool}{inner els k:Bool→Prop}(b:Bool)(h1:a=true→inner b)(h2:els false)(h3:k (a&&b)):c7 (.bool a) true inner els k:=
 ⟨a,a&&b,rfl,fun e=>by subst e;exact h1 rfl,fun e=>by subst e;exact h2,h3⟩
theorem c7.or{a:Bool}{inner els k:Bool→Prop}(b:Bool)(h1:a=false→inner b)(h2:els true)(h3:k (a||b)):c7 (.bool a) false inner els k:=
 ⟨a,a||b,rfl,fun e=>by subst e;exact h1 rfl,fun e=>by subst e;exact h2,h3⟩
theorem Split.mk{a:Bool}{want:Bool}{k1 k2:Prop}(h1:a=want→k1)(h2:a= !want→k2):Split (.bool a) want k1 k2:=⟨a,rfl,h1,h2⟩
theorem Split.go{a:Bool}{want:Bool}{k1 k2:Prop}(e:a=want)(h1:k1):Split (.bool a) want k1 k2:=⟨a,rfl,fun _=>h1,fun e'=>by subst e;cases a<;>simp at e'⟩
theorem Split.EX{a:Bool}{want:Bool}{k1 k2:Prop}(e:a= !want)(h1:k2):Split (.bool a) want k1 k2:=⟨a,rfl,fun e'=>by subst e';cases a<;>simp at e,fun _=>h1⟩
theorem aq.mk{t:Bool}{a b:Value}{k:Value→Prop}(h:k (cond t a b)):aq (.bool t) a b k:=⟨t,rfl,h⟩
theorem Un.not{b:Bool}{k:Value→Prop}(h:k (.bool !b)):Un .not (.bool b) k:=⟨_,rfl,h⟩
theorem Ext.mk{i:Nat}{vs:Array Value}{v:Value}{k:Value→Prop}(hv:vs[i]? =some v)(h:k v):Ext i (.tuple vs) k:=⟨vs,v,rfl,hv,h⟩
theorem aM.mk{a:Option Addr}{n c:Nat}{k:Value→Prop}(h:k (.int .i64 n)):aM (.slice a n c) k:=⟨a,n,c,rfl,h⟩
theorem bB.of{kd j:IntKind}{n m:Int}{k:Value→Prop}(e:kd.wrap n=m)(h:k (.int kd m)):bB kd (.int j n) k:=⟨j,n,rfl,by rw[e];exact h⟩
theorem A7.mk{off:Nat}{cs:Array Value}{v:Value}{k:Value→Prop}(hc:cs[off]? =some v)(h:k v):A7 off (.agg cs) k:=⟨cs,v,rfl,hc,h⟩
theorem ai.mk{size b o n c:Nat}{kd:IntKind}{i:Int}{k:Value→Prop}(h0:0≤i)(h1:i<(n:Int))(h:k (.pointer (some ⟨b,o+i.toNat*size,none⟩))):ai size (.slice (some ⟨b,o,none⟩) n c) (.int kd i) k:=
 ⟨b,o,n,c,kd,i,rfl,rfl,h0,h1,h⟩
theorem ai.nat{size b o n c:Nat}{kd:IntKind}{j:Nat}{k:Value→Prop}(h1:j<n)(h:k (.pointer (some ⟨b,o+j*size,none⟩))):ai size (.slice (some ⟨b,o,none⟩) n c) (.int kd (j:Int)) k:=
 ai.mk (Int.natCast_nonneg j) (by omega) (by simpa using h)
theorem ai.of{size b o n c:Nat}{kd:IntKind}{i:Int}{k:Value→Prop}(j:Nat)(e:i=(j:Int))(h1:j<n)(h:k (.pointer (some ⟨b,o+j*size,none⟩))):ai size (.slice (some ⟨b,o,none⟩) n c) (.int kd i) k:=by
 subst e;exact ai.nat h1 h
theorem aa.eql{kd:IntKind}{a b:Int}{k:Value→Prop}(h:k (.bool (a==b))):aa .num .eql (.int kd a) (.int kd b) k:=⟨_,by simp[eX,iy],h⟩
theorem aa.neq{kd:IntKind}{a b:Int}{k:Value→Prop}(h:k (.bool (a !=b))):aa .num .neq (.int kd a) (.int kd b) k:=⟨_,by simp[eX,iy],h⟩
theorem aa.lss{kd:IntKind}{a b:Int}{k:Value→Prop}(h:k (.bool (decide (a<b)))):aa .num .lss (.int kd a) (.int kd b) k:=⟨_,by simp[eX,iy],h⟩
theorem aa.leq{kd:IntKind}{a b:Int}{k:Value→Prop}(h:k (.bool (decide (a≤b)))):aa .num .leq (.int kd a) (.int kd b) k:=⟨_,by simp[eX,iy],h⟩
theorem aa.gtr{kd:IntKind}{a b:Int}{k:Value→Prop}(h:k (.bool (decide (b<a)))):aa .num .gtr (.int kd a) (.int kd b) k:=⟨_,by simp[eX,iy],h⟩
theorem aa.geq{kd:IntKind}{a b:Int}{k:Value→Prop}(h:k (.bool (decide (b≤a)))):aa .num .geq (.int kd a) (.int kd b) k:=⟨_,by simp[eX,iy],h⟩
theorem aa.add{kd:IntKind}{a b:Int}{k:Value→Prop}(h:k (.int kd (kd.wrap (a+b)))):aa .num .add (.int kd a) (.int kd b) k:=⟨_,by simp[eX,iy],h⟩
theorem aa.sub{kd:IntKind}{a b:Int}{k:Value→Prop}(h:k (.int kd (kd.wrap (a-b)))):aa .num .sub (.int kd a) (.int kd b) k:=⟨_,by simp[eX,iy],h⟩
theorem aa.mul{kd:IntKind}{a b:Int}{k:Value→Prop}(h:k (.int kd (kd.wrap (a*b)))):aa .num .mul (.int kd a) (.int kd b) k:=⟨_,by simp[eX,iy],h⟩
theorem wrap_i64{a:Int}(h: -9223372036854775808≤a∧a≤9223372036854775807):IntKind.i64.wrap a=a:=IntWalk.i64_in _ h
theorem aa.tH{a b:Int}{c:Int}{k:Value→Prop}(e:a+b=c)(hb: -9223372036854775808≤c∧c≤9223372036854775807)(h:k (.int .i64 c)):aa .num .add (.int .i64 a) (.int .i64 b) k:=
 aa.add (by rw[e,wrap_i64 hb];exact h)
theorem aa.kW{a b:Int}{c:Int}{k:Value→Prop}(e:a-b=c)(hb: -9223372036854775808≤c∧c≤9223372036854775807)(h:k (.int .i64 c)):aa .num .sub (.int .i64 a) (.int .i64 b) k:=
 aa.sub (by rw[e,wrap_i64 hb];exact h)
theorem aa.J0{a b:Int}{c:Int}{k:Value→Prop}(e:a*b=c)(hb: -9223372036854775808≤c∧c≤9223372036854775807)(h:k (.int .i64 c)):aa .num .mul (.int .i64 a) (.int .i64 b) k:=
 aa.mul (by rw[e,wrap_i64 hb];exact h)
theorem aa.BH{a b:Int}{c:Int}{k:Value→Prop}(hb0:b≠0)(e:a.tdiv b=c)(hb: -9223372036854775808≤c∧c≤9223372036854775807)(h:k (.int .i64 c)):aa .num .quo (.int .i64 a) (.int .i64 b) k:=
 ⟨.int .i64 c,by simp[eX,iy,hb0,e,wrap_i64 hb],h⟩
theorem aa.an{a:Addr}{k:Value→Prop}(h:k (.bool false)):aa .ptr .eql (.pointer (some a)) (.pointer none) k:=⟨.bool false,by simp[eX],h⟩
theorem aa.aT{k:Value→Prop}(h:k (.bool true)):aa .ptr .eql (.pointer none) (.pointer none) k:=⟨.bool true,by simp[eX],h⟩
theorem aa.aU{a:Option Nat}{k:Value→Prop}(h:k (.bool a.isNone)):aa .map .eql (.map a) (.map none) k:=⟨.bool a.isNone,by simp[eX],h⟩
theorem aR.GD(A B C:Hp):aR (A++(B++C)) (B++(A++C)):=.perm (by rw[←List.append_assoc,←List.append_assoc];exact List.perm_append_comm.append_right C)
def flat:List Hp→Hp
 | []=>[]
 | [a]=>a
 |a::b::r=>a++flat (b::r)
theorem mH:∀(l:List Hp),(flat l).Perm l.flatten
 | []=>.refl _
 | [a]=>by simp[flat]
 |a::b::r=>by
  simp only[flat,List.flatten_cons]
  exact List.Perm.append_left _ (by simpa using mH (b::r))
theorem aR.JV(S T:List Hp)(h:S.Perm T):aR (flat S) (flat T):=
 .perm ((mH S).trans (h.flatten.trans (mH T).symm))
def rows(l:List (List Value)):Array Value:=l.flatten.toArray
theorem m8{k:Nat}:∀(l:List (List Value)) (i j:Nat),(∀r∈l,r.length=k)→j<k→l.flatten[i*k+j]? =(l[i]?).bind (·[j]?)
 | [],i,j,_,_=>by simp
 |r::l,0,j,h,hj=>by
  have:=h r (by simp)
  simp[List.getElem?_append,this,hj]
 |r::l,i+1,j,h,hj=>by
  have hr:=h r (by simp)
  have ih:=m8 l i j (fun x hx=>h x (by simp[hx])) hj
  rw[List.flatten_cons,List.getElem?_append_right (by rw[hr,Nat.succ_mul];omega),hr,show(i+1)*k+j-k=i*k+j by rw[Nat.succ_mul];omega,ih]
  simp
theorem bW{k:Nat}:∀(l:List (List Value)),(∀r∈l,r.length=k)→l.flatten.length=l.length*k
 | [],_=>by simp
 |r::l,h=>by
  have hr:=h r (by simp)
  rw[List.flatten_cons,List.length_append,hr,bW l (fun x hx=>h x (by simp[hx]))]
  simp[Nat.succ_mul];omega
theorem bf{k:Nat}{l:List (List Value)}(h:∀r∈l,r.length=k):(rows l).size=l.length*k:=by simp[rows,bW l h]
theorem eL{k:Nat}{l:List (List Value)}(h:∀r∈l,r.length=k){i j:Nat}(hj:j<k):(rows l)[i*k+j]? =(l[i]?).bind (·[j]?):=by
 simp only[rows,List.getElem?_toArray];exact m8 l i j h hj
theorem qY{k:Nat}{l:List (List Value)}(h:∀r∈l,r.length=k){i:Nat}{r:List Value}(hi:l[i]? =some r):(rows l).extract (i*k) (i*k+k)=r.toArray:=by
 have hr:=h r (List.mem_of_getElem? hi)
 have hlt:=(List.getElem?_eq_some_iff.1 hi).1
 apply Array.ext'
 apply List.ext_getElem?
 intro j
 by_cases hj:j<k
 ·have:=eL h (i:=i) hj
  rw[Array.getElem?_toList,Array.getElem?_extract]
  rw[if_pos (by rw[bf h];have:=Nat.mul_le_mul_right k (Nat.succ_le_of_lt hlt);rw[Nat.succ_mul]at this;omega),this,hi]
  simp
 ·rw[List.getElem?_eq_none (by simp;omega),List.getElem?_eq_none (by simp;omega)]
theorem ju:∀(vs:List Value) (c:List Value) (off:Nat),off+vs.length≤c.length→fE c.toArray off vs=(c.take off++vs++c.drop (off+vs.length)).toArray
 | [],c,off,_=>by simp[fE]
 |v::r,c,off,h=>by
  simp only[List.length_cons]at h
  have hl:off<c.length:=by omega
  have:c.toArray.setIfInBounds off v=(c.set off v).toArray:=by simp
  rw[fE,this,ju r (c.set off v) (off+1) (by simp only[List.length_set];omega)]
  congr 1
  have e1:(c.set off v).take (off+1)=c.take off++[v]:=by
   rw[List.set_eq_take_append_cons_drop,if_pos hl,List.take_append]
   simp[List.take_take,hl,Nat.min_eq_left (Nat.le_of_lt hl)]
  have e2:(c.set off v).drop (off+1+r.length)=c.drop (off+(v::r).length):=by
   rw[List.drop_set_of_lt (by omega)]
   simp only[List.length_cons]
   rw[show off+1+r.length=off+(r.length+1)by omega]
  rw[e1,e2];simp
theorem sA{k:Nat}{l:List (List Value)}(h:∀r∈l,r.length=k){i:Nat}(hi:i<l.length){r:List Value}(hr:r.length=k):fE (rows l) (i*k) r=rows (l.set i r):=by
 unfold rows
 have hlen:=bW l h
 have hle:i*k+k≤l.length*k:=by have:=Nat.mul_le_mul_right k (Nat.succ_le_of_lt hi);rwa [Nat.succ_mul]at this
 rw[ju r l.flatten (i*k) (by rw[hlen,hr];exact hle)]
 congr 1
 have e:l=l.take i++[l[i]]++l.drop (i+1):=by simp
 have hp:(l.take i).flatten.length=i*k:=by
  rw[bW _ (fun x hx=>h x (List.mem_of_mem_take hx))];simp[Nat.min_eq_left (Nat.le_of_lt hi)]
 have hm:l[i].length=k:=h _ (List.getElem_mem hi)
 have e3:l.flatten=(l.take i).flatten++(l[i]++(l.drop (i+1)).flatten):=by
  rw[←List.flatten_cons,←List.flatten_append,←List.drop_eq_getElem_cons hi,List.take_append_drop]
 have e4:(l.set i r).flatten=(l.take i).flatten++(r++(l.drop (i+1)).flatten):=by
  rw[List.set_eq_take_append_cons_drop,if_pos hi];simp[List.flatten_append]
 rw[e4,e3,←hp,List.take_left,←List.drop_drop,List.drop_left,hr,←hm,List.drop_left]
 simp
end
end Go.Sx
namespace Go.Sx
open Go
section
variable {P:Program} {g:Gh}
theorem ct.bL{b:Nat}{o o':Obj}{C C':Hp}(h:ct b o o' C C')(A:Hp):ct b o o' (A++C) (A++C'):=by
 induction A with
 |nil=>exact h
 |cons x A ih=>exact .tail ih
def aI(T:TypeId)(k:Nat)(v:Value)(rs:List (List Value))(C:Hp):Prop:=
 (v=.slice none 0 0∧rs=[]∧C=[])∨
 ∃b ax,v=.slice (some ⟨b,0,none⟩) rs.length (rs.length+ax.length)∧C=[(b,.cells (rows (rs++ax)) T (0,0))]∧(∀r∈rs++ax,r.length=k)
theorem aI.nil(T:TypeId)(k:Nat):aI T k (.slice none 0 0) [] []:=.inl ⟨rfl,rfl,rfl⟩
theorem aI.len{T:TypeId}{k:Nat}{v:Value}{rs:List (List Value)}{C:Hp}(h:aI T k v rs C):∃a c,v=.slice a rs.length c:=by
 rcases h with⟨rfl,rfl,rfl⟩|⟨b,ax,rfl,_⟩
 ·exact⟨_,_,rfl⟩
 ·exact⟨_,_,rfl⟩
theorem aI.cP{T:TypeId}{k:Nat}{v:Value}{rs:List (List Value)}{C:Hp}(h:aI T k v rs C){K:Value→Prop}(hk:K (.int .i64 rs.length)):aM v K:=by
 obtain⟨a,c,rfl⟩:=h.len;exact aM.mk hk
theorem kS{k:Nat}(z:List Value)(hz:z.length=k)(m:Nat):Builtin.zeroCells z.toArray m=rows (List.replicate m z):=by
 apply Array.ext'
 apply List.ext_getElem?
 intro j
 have aD:∀r∈List.replicate m z,r.length=k:=fun r hr=>by rw[List.eq_of_mem_replicate hr,hz]
 by_cases hj:j<m*k
 ·have hk:0<k:=Nat.pos_of_ne_zero fun e=>by simp[e]at hj
  have hd:j/k<m:=Nat.div_lt_of_lt_mul (by rw[Nat.mul_comm];exact hj)
  have hm:j%k<k:=Nat.mod_lt _ hk
  have he:j/k*k+j%k=j:=by rw[Nat.mul_comm];exact Nat.div_add_mod j k
  have:=eL aD (i:=j/k) hm
  rw[he]at this
  rw[Array.getElem?_toList,Array.getElem?_toList,this]
  simp only[Builtin.zeroCells,List.size_toArray,hz,List.getElem?_replicate,hd,if_true,Option.bind_some]
  rw[Array.getElem?_map,Array.getElem?_range]
  simp[hj,hz,hm]
 ·rw[List.getElem?_eq_none,List.getElem?_eq_none]
  ·simp only[Array.length_toList,bf aD,List.length_replicate];omega
  ·simp[Builtin.zeroCells,hz];omega
theorem cy(a b:List (List Value)):rows a++rows b=rows (a++b):=by simp[rows,List.flatten_append]
theorem aI.DN{elem k bytes:Nat}{zero:Value}{v:Value}{rs:List (List Value)}{C A B:Hp}(h:aI elem k v rs C){xb:Nat}{r:List Value}{xT:TypeId}{fz:Nat×Nat}{xc:Nat}
 (hx:(xb,Obj.cells r.toArray xT fz)∈A++(C++B))(hr:r.length=k)(h1:∀u∈r,u.oneCell'=true)(hz:∃z:List Value,zero.cells=z.toArray∧z.length=k)
 (hb:(rs.length+1)*bytes≤140737488355328)(cc:rs.length+1≤9223372036854775807){K:Value→Hp→Prop}
 (hk:∀v' C',aI elem k v' (rs++[r]) C'→K v' (A++(C'++B))):App P elem k bytes zero (A++(C++B)) v (.slice (some ⟨xb,0,none⟩) 1 xc) K:=by
 have yz:∀x∈[r],x.length=k:=fun x hx=>by simp at hx;rw[hx];exact hr
 obtain⟨z,Kh,Ft⟩:=hz
 have hnews:Cells (A++(C++B)) (some ⟨xb,0,none⟩) (1*k) (rows [r]):=.inr ⟨rfl,_,_,_,hx,by simp[hr],by simp[rows];rw[←hr,List.take_length]⟩
 have hnone:∀u∈(rows [r]).toList,u.oneCell'=true:=by simpa[rows]using h1
 rcases h with⟨rfl,rfl,rfl⟩|⟨b,ax,rfl,rfl,aD⟩
 ·refine⟨none,0,0,some ⟨xb,0,none⟩,1,xc,#[],rows [r],rfl,rfl,rfl,hnews,by rw[bf yz];simp,by simp,hnone,fun h=>by omega,fun _=>⟨hb,by omega,fun dy hn b Oi=>?_⟩⟩
  rw[show(#[]:Array Value)++rows [r]++Builtin.zeroCells zero.cells (dy-(0+1))=rows ([]++[r]++List.replicate (dy-1) z)by rw[Kh,kS z Ft];simp only[Nat.zero_add,Array.empty_append,List.nil_append];rw[cy]]
  refine⟨_,aR.GD [(b,_)] A B,hk _ [(b,_)] (.inr ⟨b,List.replicate (dy-1) z,?_,rfl,?_⟩)⟩
  ·simp;omega
  ·intro x hx
   rcases List.mem_append.1 hx with hx|hx
   ·exact yz x hx
   ·rw[List.eq_of_mem_replicate hx,Ft]
 ·have hsz:=bf aD
  have jW:∀x∈rs,x.length=k:=fun x hx=>aD x (by simp[hx])
  have hold:rows rs=(rows (rs++ax)).extract 0 (0+rs.length*k):=by
   rw[←cy]
   apply Array.ext'
   have:=bf jW
   have h2:(rows rs).toList.length=rs.length*k:=by rw[Array.length_toList];exact this
   rw[Array.toList_extract,Array.toList_append,List.extract_eq_take_drop,List.drop_zero,Nat.zero_add,Nat.sub_zero,←h2,List.take_left]
  refine⟨some ⟨b,0,none⟩,rs.length,rs.length+ax.length,some ⟨xb,0,none⟩,1,xc,rows rs,rows [r],rfl,rfl,.inr ⟨rfl,_,elem,(0,0),by simp,?_,hold⟩,hnews,by rw[bf yz];simp,bf jW,hnone,fun hfit=>?_,fun hgrow=>⟨hb,by omega,fun dy hn b' Oi=>?_⟩⟩
  ·rw[hsz];simp only[List.length_append,Nat.zero_add];exact Nat.mul_le_mul_right _ (by omega)
  ·obtain⟨j0,B3,rfl⟩:∃j0 B3,ax=j0::B3:=by cases ax with|nil=>exact absurd hfit (by simp only[List.length_nil];omega)|cons a b=>exact⟨a,b,rfl⟩
   refine⟨_,elem,_,rfl,?_,((ct.head _).append B).bL A,hk _ [(b,_)] (.inr ⟨b,B3,?_,?_,?_⟩)⟩
   ·rw[hsz];simp[Nat.succ_mul,Nat.add_mul]
   ·simp;omega
   ·have e:(rows [r]).toList=r:=by simp[rows]
    rw[e,show(⟨b,0,none⟩:Addr).off+rs.length*k=rs.length*k by simp,sA aD (by simp) hr]
    simp
   ·intro x hx
    simp only[List.append_assoc,List.cons_append,List.nil_append,List.mem_append,List.mem_cons]at hx
    rcases hx with hx|hx|hx
    ·exact jW x hx
    ·rw[hx];exact hr
    ·exact aD x (by simp[hx])
  ·refine⟨A++([(b',_)]++B),?_,hk _ [(b',_)] (.inr ⟨b',List.replicate (dy-(rs.length+1)) z,?_,rfl,?_⟩)⟩
   ·rw[Kh,kS z Ft,cy,cy]
    exact fun g w h=>(aR.JV [[_],A,[_],B] [[_],A,[_],B] ((List.perm_append_comm (l₁:=[_,A]) (l₂:=[_])).append_right [B]|>.trans (.cons _ (.swap _ _ _))) g w h).tail
   ·simp;omega
   ·intro x hx
    rcases List.mem_append.1 hx with hx|hx
    ·rcases List.mem_append.1 hx with hx|hx
     ·exact jW x hx
     ·exact yz x hx
    ·rw[List.eq_of_mem_replicate hx,Ft]
end
end Go.Sx
namespace Go.Sx
open Go
section
variable {P:Program} {g:Gh} {H:Hp}
theorem aI.pos{T:TypeId}{k:Nat}{v:Value}{rs:List (List Value)}{C:Hp}(h:aI T k v rs C)(hp:0<rs.length):
  ∃b ax,v=.slice (some ⟨b,0,none⟩) rs.length (rs.length+ax.length)∧C=[(b,.cells (rows (rs++ax)) T (0,0))]∧(∀r∈rs++ax,r.length=k):=by
 rcases h with⟨_,rfl,_⟩|h
 ·simp at hp
 ·exact h
theorem aI.mk{T:TypeId}{k b:Nat}{rs ax:List (List Value)}(aD:∀r∈rs++ax,r.length=k):aI T k (.slice (some ⟨b,0,none⟩) rs.length (rs.length+ax.length)) rs [(b,.cells (rows (rs++ax)) T (0,0))]:=
 .inr ⟨b,ax,rfl,rfl,aD⟩
theorem aI.mk'{T:TypeId}{k b n c:Nat}{rs ax:List (List Value)}(aD:∀r∈rs++ax,r.length=k)(hn:n=rs.length)(hc:c=rs.length+ax.length):aI T k (.slice (some ⟨b,0,none⟩) n c) rs [(b,.cells (rows (rs++ax)) T (0,0))]:=by
 subst hn;subst hc;exact aI.mk aD
theorem ay.row{b i k:Nat}{l:List (List Value)}{T:TypeId}{fz:Nat×Nat}{r:List Value}{K:Value→Prop}(hm:(b,Obj.cells (rows l) T fz)∈H)(aD:∀r∈l,r.length=k)(hi:l[i]? =some r)(h:K (.agg r.toArray)):
  ay k H (.pointer (some ⟨b,0+i*k,none⟩)) K:=by
 have hlt:=(List.getElem?_eq_some_iff.1 hi).1
 refine ay.mk hm ?_ ?_ h
 ·rw[bf aD,Nat.zero_add];have:=Nat.mul_le_mul_right k (Nat.succ_le_of_lt hlt);rwa [Nat.succ_mul]at this
 ·rw[Nat.zero_add];exact qY aD hi
theorem Ld.row{b i j k:Nat}{l:List (List Value)}{T:TypeId}{fz:Nat×Nat}{r:List Value}{v:Value}{K:Value→Prop}(hm:(b,Obj.cells (rows l) T fz)∈H)(aD:∀r∈l,r.length=k)(hi:l[i]? =some r)(hv:r[j]? =some v)(h:K v):
  Ld H (.pointer (some ⟨b,0+i*k+j,none⟩)) K:=by
 have hr:=aD r (List.mem_of_getElem? hi)
 have hj:j<k:=by rw[←hr];exact(List.getElem?_eq_some_iff.1 hv).1
 refine Ld.mk hm ?_ h
 rw[Nat.zero_add,eL aD hj,hi];exact hv
theorem Ld.JW{b i:Nat}{l:List (List Value)}{T:TypeId}{fz:Nat×Nat}{v:Value}{K:Value→Prop}(hm:(b,Obj.cells (rows l) T fz)∈H)(aD:∀r∈l,r.length=1)(hi:l[i]? =some [v])(h:K v):
  Ld H (.pointer (some ⟨b,0+i*1,none⟩)) K:=by
 have:=Ld.row (j:=0) hm aD hi rfl h
 simpa using this
theorem St.row{b i k:Nat}{l:List (List Value)}{T:TypeId}{r:List Value}{H':Hp}{K:Hp→Prop}(hu:ct b (.cells (rows l) T (0,0)) (.cells (rows (l.set i r)) T (0,0)) H H')(aD:∀r∈l,r.length=k)(hi:i<l.length)
 (hr:r.length=k)(h1:∀v∈r,v.oneCell'=true)(h:K H'):St k H (.pointer (some ⟨b,0+i*k,none⟩)) (.agg r.toArray) K:=by
 refine St.mk hu (by simp[Value.cells,hr]) ?_ (by simpa[Value.cells]using h1) ?_ h
 ·rw[bf aD,Nat.zero_add];have:=Nat.mul_le_mul_right k (Nat.succ_le_of_lt hi);rwa [Nat.succ_mul]at this
 ·simp only[Value.cells,Nat.zero_add];exact sA aD hi hr
theorem jU{k:Nat}{l:List (List Value)}(h:∀r∈l,r.length=k){i j:Nat}{r:List Value}(hi:l[i]? =some r)(hj:j<k)(v:Value):(rows l).setIfInBounds (i*k+j) v=rows (l.set i (r.set j v)):=by
 have hr:=h r (List.mem_of_getElem? hi)
 have hlt:=(List.getElem?_eq_some_iff.1 hi).1
 have C9:∀x∈l.set i (r.set j v),x.length=k:=fun x hx=>by
  rcases List.mem_or_eq_of_mem_set hx with hx|hx
  ·exact h x hx
  ·rw[hx,List.length_set];exact hr
 have hk:0<k:=by omega
 apply Array.ext'
 apply List.ext_getElem?
 intro m
 rw[Array.getElem?_toList,Array.getElem?_toList,Array.getElem?_setIfInBounds]
 have hm:m%k<k:=Nat.mod_lt _ hk
 have he:m/k*k+m%k=m:=by rw[Nat.mul_comm];exact Nat.div_add_mod m k
 have g1:=eL h (i:=m/k) hm
 have g2:=eL C9 (i:=m/k) hm
 rw[he]at g1 g2
 rw[g1,g2]
 by_cases e:i*k+j=m
 ·have e1:m/k=i:=by rw[←e,Nat.mul_comm,Nat.mul_add_div hk,Nat.div_eq_of_lt hj,Nat.add_zero]
  have e2:m%k=j:=by rw[←e,Nat.mul_comm,Nat.mul_add_mod,Nat.mod_eq_of_lt hj]
  rw[if_pos e,if_pos (by rw[bf h];have:=Nat.mul_le_mul_right k (Nat.succ_le_of_lt hlt);rw[Nat.succ_mul]at this;omega),e1,e2]
  simp[hlt,hr,hj]
 ·rw[if_neg e]
  by_cases e1:m/k=i
  ·have e2:j≠m%k:=fun e2=>e (by rw[e2,←e1];exact he)
   rw[e1,hi]
   simp[hlt,e2]
  ·rw[List.getElem?_set_ne (fun x=>e1 x.symm)]
theorem St.cell{b i j k:Nat}{l:List (List Value)}{T:TypeId}{r:List Value}{v:Value}{H':Hp}{K:Hp→Prop}(hu:ct b (.cells (rows l) T (0,0)) (.cells (rows (l.set i (r.set j v))) T (0,0)) H H')(aD:∀r∈l,r.length=k)
 (hi:l[i]? =some r)(hj:j<k)(h1:v.oneCell'=true)(h:K H'):St 1 H (.pointer (some ⟨b,0+i*k+j,none⟩)) v K:=by
 have hlt:=(List.getElem?_eq_some_iff.1 hi).1
 have hc:v.cells=#[v]:=by cases v<;>first|rfl|(simp[Value.oneCell']at h1)
 refine St.mk hu (by simp[hc]) ?_ (by simp[hc,h1]) ?_ h
 ·rw[bf aD,Nat.zero_add];have:=Nat.mul_le_mul_right k (Nat.succ_le_of_lt hlt);rw[Nat.succ_mul]at this;omega
 ·simp only[hc,Nat.zero_add,fE];exact jU aD hi hj v
theorem St.one{b off:Nat}{c c':Array Value}{T:TypeId}{v:Value}{H':Hp}{K:Hp→Prop}(hu:ct b (.cells c T (0,0)) (.cells c' T (0,0)) H H')(h1:v.oneCell'=true)(hs:off<c.size)(hc:c.setIfInBounds off v=c')(h:K H'):
  St 1 H (.pointer (some ⟨b,off,none⟩)) v K:=by
 have hv:v.cells=#[v]:=by cases v<;>first|rfl|(simp[Value.oneCell']at h1)
 exact St.mk hu (by simp[hv]) (by omega) (by simp[hv,h1]) (by simpa[hv,fE]using hc) h
theorem St.whole{b n:Nat}{c:Array Value}{T:TypeId}{r:List Value}{H':Hp}{K:Hp→Prop}(hu:ct b (.cells c T (0,0)) (.cells r.toArray T (0,0)) H H')(hs:c.size=n)(hr:r.length=n)(h1:∀v∈r,v.oneCell'=true)(h:K H'):
  St n H (.pointer (some ⟨b,0,none⟩)) (.agg r.toArray) K:=by
 refine St.mk hu (by simp[Value.cells,hr]) (by omega) (by simpa[Value.cells]using h1) ?_ h
 have:=ju r c.toList 0 (by simp;omega)
 rw[Array.toArray_toList]at this
 simp only[Value.cells]
 rw[this]
 simp[List.drop_eq_nil_of_le,hr,hs]
theorem ay.whole{b n:Nat}{r:List Value}{T:TypeId}{fz:Nat×Nat}{K:Value→Prop}(hm:(b,Obj.cells r.toArray T fz)∈H)(hr:r.length=n)(h:K (.agg r.toArray)):ay n H (.pointer (some ⟨b,0,none⟩)) K:=
 ay.mk hm (by simp[hr]) (by simp;rw[←hr,List.take_length]) h
theorem dR{α β:Type}(f:α→β):∀(l:List α) (i:Nat),(l.map f).eraseIdx i=(l.eraseIdx i).map f
 | [],_=>rfl
 |x::l,0=>rfl
 |x::l,i+1=>by simp[dR f l i]
def di{β:Type}(kd:IntKind)(enc:β→Value)(m:List (Int×β×Nat)):Array MapEntry:=(m.map fun x=>({key:=.int kd x.1,val:=enc x.2.1,born:=x.2.2}:MapEntry)).toArray
def dO{β:Type}(m:List (Int×β×Nat))(x:Int):Option β:=(m.find? (fun y=>x==y.1)).map (·.2.1)
def gj{β:Type}(kd:IntKind)(enc:β→Value)(v:Value)(f:Int→Option β)(C:Hp):Prop:=
 (v=.map none∧C=[]∧f=fun _=>none)∨
 ∃b m ck,v=.map (some b)∧C=[(b,.map (di kd enc m) ck)]∧(m.map Prod.fst).Nodup∧f=dO m
theorem fp{β:Type}(kd:IntKind)(enc:β→Value)(x:Int):∀(m:List (Int×β×Nat)) (i:Nat),
  ∃r,Instr.findNow (.int kd) (.int kd x) (di kd enc m).toList i=some r∧
   (match r with
    |none=>dO m x=none∧x∉m.map Prod.fst
    |some (j,v)=>i≤j∧∃p n,m[j-i]? =some (x,p,n)∧v=enc p∧dO m x=some p)
 | [],i=>⟨none,by simp[di,Instr.findNow],by simp[dO]⟩
 |(y,p,n)::m,i=>by
  simp only[di,List.map_cons,Instr.findNow,Instr.sameNow,if_true]
  by_cases e:x=y
  ·subst e
   refine⟨some (i,enc p),by simp[Instr.findNow,Instr.sameNow],Nat.le_refl _,p,n,by simp,rfl,by simp[dO]⟩
  ·obtain⟨r,hr,hp⟩:=fp kd enc x m (i+1)
   have hb:(x==y)=false:=by simpa using e
   refine⟨r,?_,?_⟩
   ·simp only[di]at hr
    simp[Instr.findNow,Instr.sameNow,hb,hr]
   ·cases r with
    |none=>
     simp only[dO,List.find?_cons,hb]at hp⊢
     exact⟨hp.1,by simpa[e]using hp.2⟩
    |some jv=>
     obtain⟨j,v⟩:=jv
     simp only[dO,List.find?_cons,hb]at hp⊢
     obtain⟨hij,p',n',h1,h2,h3⟩:=hp
     refine⟨by omega,p',n',?_,h2,h3⟩
     rw[show j-i=(j-(i+1))+1 by omega];simpa using h1
theorem gj.look{β:Type}{kd:IntKind}{enc:β→Value}{v zero:Value}{f:Int→Option β}{C:Hp}{ok:Bool}{x:Int}{K:Value→Prop}(h:gj kd enc v f C)(hC:∀y∈C,y∈H)
 (hk:K (match f x with|some p=>cond ok (.tuple #[enc p,.bool true]) (enc p)|none=>cond ok (.tuple #[zero,.bool false]) zero)):dW (.int kd) zero ok H v (.int kd x) K:=by
 rcases h with⟨rfl,rfl,rfl⟩|⟨b,m,ck,rfl,rfl,_,rfl⟩
 ·exact⟨#[],none,.inl ⟨rfl,rfl⟩,rfl,hk⟩
 ·obtain⟨r,hr,hp⟩:=fp kd enc x m 0
  refine⟨_,r,.inr ⟨b,ck,rfl,hC _ (by simp)⟩,hr,?_⟩
  cases r with
  |none=>simp only[hp.1]at hk;exact hk
  |some jv=>
   obtain⟨j,u⟩:=jv
   obtain⟨_,p,n,_,rfl,h3⟩:=hp
   simp only[h3]at hk;exact hk
def A2{β:Type}(f:Int→Option β)(x:Int)(p:Option β):Int→Option β:=fun y=>if y=x then p else f y
theorem gj.made{β:Type}{kd:IntKind}{enc:β→Value}(b:Nat):gj kd enc (.map (some b)) (fun _=>none) [(b,.map #[] 0)]:=
 .inr ⟨b,[],0,rfl,rfl,by simp,by funext x;simp[dO]⟩
theorem uz{β:Type}(m:List (Int×β×Nat))(x:Int)(p:β)(n:Nat)(hx:x∉m.map Prod.fst):dO (m++[(x,p,n)])=A2 (dO m) x (some p):=by
 funext y
 simp only[dO,A2,List.find?_append]
 by_cases e:y=x
 ·subst e
  have:m.find? (fun z=>y==z.1)=none:=by
   rw[List.find?_eq_none];intro z hz;simp only[beq_iff_eq];intro e;exact hx (e▸List.mem_map_of_mem hz)
  simp[this]
 ·have e':(y==x)=false:=by simpa using e
  rw[if_neg e]
  cases h:m.find? (fun z=>y==z.1)<;>simp[e']
theorem qd{β:Type}:∀(m:List (Int×β×Nat)) (j:Nat) (x:Int) (p q:β) (n:Nat),(m.map Prod.fst).Nodup→m[j]? =some (x,q,n)→dO (m.set j (x,p,n))=A2 (dO m) x (some p)
 | [],j,_,_,_,_,_,h=>by simp at h
 |y::m,0,x,p,q,n,nd,h=>by
  simp at h;subst h
  funext z
  simp only[List.set_cons_zero,dO,A2,List.find?_cons]
  by_cases e:z=x
  ·subst e;simp
  ·have e':(z==x)=false:=by simpa using e
   rw[if_neg e];simp[e']
 |y::m,j+1,x,p,q,n,nd,h=>by
  simp at h
  simp only[List.map_cons,List.nodup_cons]at nd
  have ih:=qd m j x p q n nd.2 h
  have hne:x≠y.1:=fun e=>nd.1 (e▸List.mem_map_of_mem (f:=Prod.fst) (List.mem_of_getElem? h))
  funext z
  have Kg:=congrFun ih z
  simp only[List.set_cons_succ,dO,A2,List.find?_cons]at Kg⊢
  by_cases e:z=y.1
  ·have:z≠x:=fun e2=>hne (e2▸e)
   simp[e,Ne.symm hne]
  ·have e':(z==y.1)=false:=by simpa using e
   simp only[e'];exact Kg
theorem mW{β:Type}:∀(m:List (Int×β×Nat)) (j:Nat) (x:Int) (q:β) (n:Nat),(m.map Prod.fst).Nodup→m[j]? =some (x,q,n)→dO (m.eraseIdx j)=A2 (dO m) x none
 | [],j,_,_,_,_,h=>by simp at h
 |y::m,0,x,q,n,nd,h=>by
  simp at h;subst h
  simp only[List.map_cons,List.nodup_cons]at nd
  funext z
  simp only[List.eraseIdx_cons_zero,dO,A2,List.find?_cons]
  by_cases e:z=x
  ·subst e
   have:m.find? (fun w=>z==w.1)=none:=by
    rw[List.find?_eq_none];intro w hw;simp only[beq_iff_eq];intro e;exact nd.1 (e▸List.mem_map_of_mem hw)
   simp[this]
  ·have e':(z==x)=false:=by simpa using e
   rw[if_neg e];simp[e']
 |y::m,j+1,x,q,n,nd,h=>by
  simp at h
  simp only[List.map_cons,List.nodup_cons]at nd
  have ih:=mW m j x q n nd.2 h
  have hne:x≠y.1:=fun e=>nd.1 (e▸List.mem_map_of_mem (f:=Prod.fst) (List.mem_of_getElem? h))
  funext z
  have Kg:=congrFun ih z
  simp only[List.eraseIdx_cons_succ,dO,A2,List.find?_cons]at Kg⊢
  by_cases e:z=y.1
  ·simp[e,Ne.symm hne]
  ·have e':(z==y.1)=false:=by simpa using e
   simp only[e'];exact Kg
theorem gj.bc{β:Type}{kd:IntKind}{enc:β→Value}{b:Nat}{f:Int→Option β}{C:Hp}{x:Int}{p:β}{A B:Hp}{K:Hp→Prop}(h:gj kd enc (.map (some b)) f C)
 (hk:∀C',gj kd enc (.map (some b)) (A2 f x (some p)) C'→K (A++(C'++B))):aY (.int kd) (A++(C++B)) (.map (some b)) (.int kd x) (enc p) K:=by
 rcases h with⟨h,_,_⟩|⟨b',m,ck,hb,rfl,nd,rfl⟩
 ·simp at h
 ·simp only[Value.map.injEq,Option.some.injEq]at hb;subst hb
  obtain⟨r,hr,hp⟩:=fp kd enc x m 0
  refine⟨b,di kd enc m,ck,r,rfl,hr,?_⟩
  cases r with
  |none=>
   refine⟨_,((ct.head _).append B).bL A,hk [(b,_)] (.inr ⟨b,m++[(x,p,ck)],ck+1,rfl,?_,?_,?_⟩)⟩
   ·simp[di]
   ·rw[List.map_append,List.nodup_append];exact⟨nd,by simp,fun a ha c hc=>by simp at hc;subst hc;intro e;subst e;exact hp.2 ha⟩
   ·exact(uz m x p ck hp.2).symm
  |some jv=>
   obtain⟨j,u⟩:=jv
   obtain⟨_,q,n,h1,rfl,h3⟩:=hp
   rw[Nat.sub_zero]at h1
   have hlt:=(List.getElem?_eq_some_iff.1 h1).1
   refine⟨fun e he=>?_,by simpa[di]using hlt,_,((ct.head _).append B).bL A,hk [(b,_)] (.inr ⟨b,m.set j (x,p,n),ck,rfl,?_,?_,?_⟩)⟩
   ·have:e={key:=.int kd x,val:=enc q,born:=n}:=by
     simp only[di,List.getElem?_toArray,List.getElem?_map,h1]at he;simpa using he.symm
    subst this
    simp[Instr.sameBits]
   ·congr 3
    apply Array.ext'
    apply List.ext_getElem?
    intro i
    simp only[di,Array.getElem?_toList,Array.getElem?_modify,List.getElem?_toArray,List.getElem?_map,List.getElem?_set]
    by_cases e:j=i
    ·subst e
     have hj:m[j]=(x,q,n):=by have:=List.getElem?_eq_getElem hlt;rw[h1]at this;simpa using this.symm
     simp[hlt,hj]
    ·simp[e]
   ·rw[List.map_set]
    have hx:(m.map Prod.fst)[j]? =some x:=by rw[List.getElem?_map,h1];rfl
    rw[show(m.map Prod.fst).set j x=m.map Prod.fst by
     apply List.ext_getElem?;intro i;rw[List.getElem?_set];by_cases e:j=i
     ·subst e;rw[hx];simp[hlt]
     ·simp[e]]
    exact nd
   ·exact(qd m j x p q n nd h1).symm
theorem gj.del{β:Type}{kd:IntKind}{enc:β→Value}{v:Value}{f:Int→Option β}{C:Hp}{x:Int}{A B:Hp}{K:Hp→Prop}(h:gj kd enc v f C)
 (hk:∀C',gj kd enc v (A2 f x none) C'→K (A++(C'++B))):kH (.int kd) (A++(C++B)) v (.int kd x) K:=by
 rcases h with⟨rfl,rfl,rfl⟩|⟨b,m,ck,rfl,rfl,nd,rfl⟩
 ·refine .inl ⟨rfl,hk [] (.inl ⟨rfl,rfl,?_⟩)⟩
  funext y;simp[A2]
 ·obtain⟨r,hr,hp⟩:=fp kd enc x m 0
  refine .inr ⟨b,di kd enc m,ck,r,rfl,hr,?_⟩
  cases r with
  |none=>
   refine⟨by simp,hk [(b,_)] (.inr ⟨b,m,ck,rfl,rfl,nd,?_⟩)⟩
   funext y;simp only[A2];split
   ·rename_i e;subst e;exact hp.1.symm
   ·rfl
  |some jv=>
   obtain⟨j,u⟩:=jv
   obtain⟨_,q,n,h1,rfl,h3⟩:=hp
   rw[Nat.sub_zero]at h1
   have hlt:=(List.getElem?_eq_some_iff.1 h1).1
   refine⟨_,((ct.head _).append B).bL A,hk [(b,_)] (.inr ⟨b,m.eraseIdx j,ck,rfl,?_,?_,?_⟩)⟩
   ·congr 3
    apply Array.ext'
    simp[di,Array.eraseIdxIfInBounds,hlt,dR]
   ·rw[←dR];exact nd.sublist (List.eraseIdx_sublist _ _)
   ·exact(mW m j x q n nd h1).symm
end
end Go.Sx
namespace Go.Sx
open Go
section
variable {P:Program} {g:Gh} {H:Hp}
theorem oH(off:Nat):∀(r:List Value) (i:Nat) (c:Array Value),(r.zipIdx i).foldl (fun cs (x:Value×Nat)=>cs.setIfInBounds (off+x.2) x.1) c=fE c (off+i) r
 | [],i,c=>rfl
 |v::r,i,c=>by
  rw[List.zipIdx_cons,List.foldl_cons,oH off r (i+1)]
  rfl
theorem Ae(off:Nat)(a c:Array Value):a.zipIdx.foldl (fun cs (x:Value×Nat)=>cs.setIfInBounds (off+x.2) x.1) c=fE c off a.toList:=by
 rw[←Array.foldl_toList]
 have:a.zipIdx.toList=a.toList.zipIdx 0:=by simp
 rw[this,oH off a.toList 0 c];rfl
def nY:List Value→Nat→List Value→List Value
 |c,_,[]=>c
 |c,off,v::r=>nY (c.set off v) (off+1) r
theorem gP:∀(r c:List Value) (off:Nat),fE c.toArray off r=(nY c off r).toArray
 | [],c,off=>rfl
 |v::r,c,off=>by
  have:c.toArray.setIfInBounds off v=(c.set off v).toArray:=by simp
  rw[fE,nY,this,gP r]
def jZ(place:Nat→Option (Nat×Nat)):List Value→List (Nat×Value)→Option (List Value)
 |c,[]=>some c
 |c,(i,v)::r=>
  match place i with
  |none=>none
  |some (off,size)=>cond (Nat.beq v.cells.toList.length size&&Nat.ble (off+v.cells.toList.length) c.length) (jZ place (nY c off v.cells.toList) r) none
theorem g8{place:Nat→Option (Nat×Nat)}:∀(r:List (Nat×Value)) (c cs:List Value),jZ place c r=some cs→Instr.fill place c.toArray r=some cs.toArray
 | [],c,cs,h=>by simp only[jZ,Option.some.injEq]at h;subst h;rfl
 |(i,v)::r,c,cs,h=>by
  simp only[jZ]at h
  simp only[Instr.fill]
  split at h
  ·simp at h
  ·rename_i off size hp
   cases hc:(Nat.beq v.cells.toList.length size&&Nat.ble (off+v.cells.toList.length) c.length)<;>simp only[hc,cond_true,cond_false,reduceCtorEq]at h
   simp only[Bool.and_eq_true]at hc
   have h1:=Nat.eq_of_beq_eq_true hc.1
   have h2:=Nat.le_of_ble_eq_true hc.2
   have h3:v.cells.toList.length=v.cells.size:=Array.length_toList
   have hsz:v.cells.size=size:=by rw[←h3];exact h1
   have hle:off+v.cells.size≤c.length:=by rw[←h3];exact h2
   simp only[hp]
   have CV:(decide (v.cells.size≠size)||decide (off+v.cells.size>c.toArray.size))=false:=by
    rw[Bool.or_eq_false_iff];exact⟨by simp[hsz],by simp only[List.size_toArray,decide_eq_false_iff_not];omega⟩
   rw[CV]
   simp only[Bool.false_eq_true,if_false]
   rw[Ae,gP]
   exact g8 r _ cs h
def k6(P:Program):List Field→Option (List (Nat×Nat))
 | []=>some []
 |f::r=>match cC P f.type,k6 P r with
  |some n,some l=>some ((f.offset,n)::l)
  |_,_=>none
def DH(P:Program)(t:TypeId)(parts:List (Nat×Value)):Option (List Value):=
 match P.underlying t,ed P t with
 |some (.struct fs),some z=>match k6 P fs.toList with
  |some pl=>jZ (fun i=>pl[i]?) z.cells.toList parts
  |none=>none
 |_,_=>none
theorem mR:∀(fs:List Field) (pl:List (Nat×Nat)),k6 P fs=some pl→∀w,(fs.mapM fun f=>(do pure (f.offset,←sizeOf f.type):Sem (Nat×Nat))).run P w=.ok pl w
 | [],pl,h,w=>by simp only[k6,Option.some.injEq]at h;subst h;rfl
 |f::r,pl,h,w=>by
  simp only[k6]at h
  split at h
  ·rename_i n l hn hl
   simp only[Option.some.injEq]at h;subst h
   obtain⟨i,hi,hin⟩:=aW hn
   have ih:=mR r l hl w
   simp only[List.mapM_cons,Sem.run_bind,run_sizeOf hi,Result.andThen_ok,Sem.run_pure,hin,ih]
  ·simp at h
theorem Build.mk{t:TypeId}{parts:List (Nat×Value)}{cs:List Value}{k:Value→Prop}(hb:DH P t parts=some cs)(h:k (.agg cs.toArray)):Build P t parts k:=by
 refine⟨_,fun w=>?_,h⟩
 unfold DH at hb
 split at hb
 ·rename_i fs z hu hz
  split at hb
  ·rename_i pl D8
   obtain⟨i,hi,pG⟩:=bV hz
   have hf:=g8 _ _ _ hb
   have hp:=mR fs.toList pl D8 w
   simp only[Instr.build,Sem.run_bind,cQ hi pG,Result.andThen_ok,run_underlying hu]
   have e2:((fs.mapM fun f=>(do pure (f.offset,←sizeOf f.type):Sem (Nat×Nat))).run P w)=.ok pl.toArray w:=by
    rw[Array.mapM_eq_mapM_toList]
    simp only[Sem.run_map,hp,Result.andThen_ok]
   rw[e2]
   show Sem.run P _ w=_
   have e3:Instr.fill (fun x=>pl.toArray[x]?) z.cells parts=some cs.toArray:=by
    simpa using hf
   simp only[e3]
   rfl
  ·simp at hb
 ·simp at hb
theorem ak.one{t e k:Nat}{z:Value}{r:List Value}{K:Value→Hp→Prop}(h1:P.underlying t=some (.slice e))(h2:cC P e=some k)(h3:ed P e=some z)(hk:0<k∧k≤16777216)(hr:r.length=k)
 (h:∀b,K (.slice (some ⟨b,0,none⟩) 1 1) ((b,.cells r.toArray e (0,0))::H)):ak P t 1 [(0,.agg r.toArray)] H K:=by
 refine⟨r.toArray,e,k,z,h1,h2,h3,by omega,?_,fun b _=>h b⟩
 have:((Array.range (1*k)).map (z.cells[· %z.cells.size]!))=(((Array.range (1*k)).map (z.cells[· %z.cells.size]!)).toList).toArray:=by rw[Array.toArray_toList]
 rw[this]
 generalize hc:((Array.range (1*k)).map (z.cells[· %z.cells.size]!)).toList=c
 have hlen:c.length=k:=by rw[←hc];simp
 refine g8 _ _ _ ?_
 simp only[jZ,Value.cells]
 have hb:(Nat.beq r.toArray.toList.length k&&Nat.ble (0*k+r.toArray.toList.length) c.length)=true:=by simp[hr,hlen]
 rw[hb]
 simp only[cond_true,Option.some.injEq]
 have:=ju r c 0 (by omega)
 rw[gP]at this
 have h5:nY c 0 r=List.take 0 c++r++List.drop (0+r.length) c:=by simpa using congrArg Array.toList this
 simp only[Nat.zero_mul]
 rw[h5]
 simp[List.drop_eq_nil_of_le,hr,hlen]
end
end Go.Sx
namespace Go.Sx
open Go
section
variable {P:Program} {g:Gh} {H:Hp}
theorem gj.zC{β:Type}{kd:IntKind}{enc:β→Value}{v zero:Value}{f:Int→Option β}{C:Hp}{ok:Bool}{x:Int}{K:Value→Prop}{p:β}(h:gj kd enc v f C)(hC:∀y∈C,y∈H)(hf:f x=some p)
 (hk:K (cond ok (.tuple #[enc p,.bool true]) (enc p))):dW (.int kd) zero ok H v (.int kd x) K:=h.look hC (by rw[hf];exact hk)
theorem gj.zD{β:Type}{kd:IntKind}{enc:β→Value}{v zero:Value}{f:Int→Option β}{C:Hp}{ok:Bool}{x:Int}{K:Value→Prop}(h:gj kd enc v f C)(hC:∀y∈C,y∈H)(hf:f x=none)
 (hk:K (cond ok (.tuple #[zero,.bool false]) zero)):dW (.int kd) zero ok H v (.int kd x) K:=h.look hC (by rw[hf];exact hk)
theorem dA.upto{size n c h:Nat}{a:Option Addr}{kd:IntKind}{k:Value→Prop}(hh:h≤c)(hk:k (.slice a h c)):dA size (.slice a n c) none (some (.int kd (h:Int))) k:=by
 refine⟨a,n,c,0,h,rfl,rfl,rfl,by omega,by omega,by omega,?_⟩
 have:(if c=(0:Int).toNat then a else a.map (·.add ((0:Int).toNat*size)))=a:=by
  split
  ·rfl
  ·simp only[Int.toNat_zero,Nat.zero_mul]
   cases a with
   |none=>rfl
   |some x=>simp[Addr.add_zero']
 rw[this]
 simpa using hk
end
end Go.Sx
namespace Go.Sx
open Go
section
variable {P:Program} {g:Gh} {H:Hp}
inductive br(C:Hp):Hp→(Hp→Hp)→Prop
 |here:br C C (fun X=>X)
 |left {A:Hp}:br C (C++A) (fun X=>X++A)
 |cons {x:Nat×Obj} {H:Hp} {c:Hp→Hp} (h:br C H c):br C (x::H) (fun X=>x::c X)
 |app {A H:Hp} {c:Hp→Hp} (h:br C H c):br C (A++H) (fun X=>A++c X)
theorem br.spec{C H:Hp}{c:Hp→Hp}(h:br C H c):H=c C∧∃F,∀X,(c X).Perm (X++F):=by
 induction h with
 |here=>exact⟨rfl,[],fun X=>by simp⟩
 | @left A=>exact⟨rfl,A,fun X=>.refl _⟩
 | @cons x H c h ih=>
  obtain⟨h1,F,h2⟩:=ih
  exact⟨by rw[h1],x::F,fun X=>(List.Perm.cons x (h2 X)).trans List.perm_middle.symm⟩
 | @app A H c h ih=>
  obtain⟨h1,F,h2⟩:=ih
  refine⟨by rw[h1],A++F,fun X=>(List.Perm.append_left A (h2 X)).trans ?_⟩
  rw[←List.append_assoc,←List.append_assoc];exact List.perm_append_comm.append_right F
theorem br.gg{C H:Hp}{c:Hp→Hp}(h:br C H c){X Y:Hp}(e:aR X Y):aR (c X) (c Y):=by
 obtain⟨_,F,hp⟩:=h.spec
 exact(aR.perm (hp X)).trans ((e.frame F).trans (.perm (hp Y).symm))
theorem aR.cons{x:Nat×Obj}{A B:Hp}(h:aR A B):aR (x::A) (x::B):=aR.dx h [x]
theorem aR.skip{x:Nat×Obj}{A B:Hp}(h:aR A B):aR (x::A) B:=aR.tail.trans h
theorem aR.JU{X A B:Hp}(h:aR A B):aR (X++A) B:=aR.right.trans h
theorem aR.assoc{A B C:Hp}:aR ((A++B)++C) (A++(B++C)):=fun _ _ h=>by rw[←List.append_assoc];exact h
theorem bG.frame{f:FuncId}{args:Array Value}{C F:Hp}{R:Ending→Hp→Prop}(h:∀g,bG P g f args C R):bG P g f args (C++F) (fun e H'=>∃C',H'=C'++F∧R e C'):=by
 intro w hw
 exact((h (g.add F)) w (Own.dz.1 hw)).mono fun e w' ⟨H',ho,hr⟩=>⟨_,Own.dz.2 ho,H',rfl,hr⟩
theorem bG.hole{f:FuncId}{args:Array Value}{C H:Hp}{c:Hp→Hp}{R:Ending→Hp→Prop}(hh:br C H c)(h:∀g,bG P g f args C R):bG P g f args H (fun e H'=>∃C',H'=c C'∧R e C'):=by
 obtain⟨rfl,F,hp⟩:=hh.spec
 exact((bG.frame (F:=F) h).pre (.perm (hp C))).post fun e H' ⟨C',h1,h2⟩=>⟨c C',by rw[h1];exact .perm (hp C').symm,C',rfl,h2⟩
def Fc(P:Program)(f:FuncId)(args:Array Value)(C:Hp)(Q:Value→Hp→Prop):Prop:=
 ∀g,bG P g f args C (fun e H'=>∃v jQ,e=.returned v∧aR H' jQ∧Q v jQ)
def aZ(Q:Value→Hp→Prop):Ending→Hp→Prop:=fun e H'=>∃v jQ,e=.returned v∧aR H' jQ∧Q v jQ
theorem aZ.mk{Q:Value→Hp→Prop}{v:Value}{H jQ:Hp}(he:aR H jQ)(h:Q v jQ):aZ Q (.returned v) H:=⟨v,jQ,rfl,he,h⟩
theorem aZ.here{Q:Value→Hp→Prop}{v:Value}{H:Hp}(h:Q v H):aZ Q (.returned v) H:=⟨v,H,rfl,.refl _,h⟩
theorem Fc.mono{f:FuncId}{args:Array Value}{C:Hp}{Q Q':Value→Hp→Prop}(h:Fc P f args C Q)(hq:∀v H,Q v H→Q' v H):Fc P f args C Q':=
 fun g=>(h g).mono fun e H' ⟨v,jQ,h1,h2,h3⟩=>⟨v,jQ,h1,h2,hq _ _ h3⟩
def Rd(P:Program)(f:FuncId)(args:Array Value)(B:Hp)(Q:Value→Prop):Prop:=Fc P f args B (fun v H=>H=B∧Q v)
theorem ae.fn{f:FuncId}{args:Array Value}{C H:Hp}{c:Hp→Hp}{Q:Value→Hp→Prop}{K:Value→Hp→Prop}{KP:List PanicEntry→Hp→Prop}(hh:br C H c)(hc:Fc P f args C Q)
 (hk:∀v C',Q v C'→K v (c C')):ae P g f args H K KP:=
 (bG.hole hh hc).post fun e H' ⟨C',h1,v,QC,h2,h3,h4⟩=>⟨c QC,by rw[h1];exact hh.gg h3,by subst h2;exact hk _ _ h4⟩
theorem ae.rd{f:FuncId}{args:Array Value}{B H:Hp}{c:Hp→Hp}{Q:Value→Prop}{K:Value→Hp→Prop}{KP:List PanicEntry→Hp→Prop}(hh:br B H c)(hc:Rd P f args B Q)
 (hk:∀v,Q v→K v H):ae P g f args H K KP:=
 ae.fn hh hc fun v C' ⟨h1,h2⟩=>by subst h1;rw[←hh.spec.1];exact hk v h2
theorem bg.of{fv:Value}{args:Array Value}{K:Value→Hp→Prop}{KP:List PanicEntry→Hp→Prop}{f:FuncId}{first captured:Array Value}(hf:fv=.func (.func f) first captured)(hc:aS P f=true)
 (h:ae P g f (first++args++captured) H K KP):bg P g fv args H K KP:=⟨f,first,captured,hf,hc,h⟩
theorem DR.self{body:Hp→Prop}(h:body H):DR H body:=⟨H,.refl _,h⟩
theorem DR.of{R:Hp}{body:Hp→Prop}(e:aR H R)(h:body R):DR H body:=⟨R,e,h⟩
def At(B:Hp)(p:Value)(r:List Value):Prop:=∃b o c T fz,p=.pointer (some ⟨b,o,none⟩)∧(b,Obj.cells c T fz)∈B∧∀j v,r[j]? =some v→c[o+j]? =some v
theorem Ld.at{p v:Value}{r:List Value}{B:Hp}{k:Value→Prop}(h:At B p (v::r))(hs:∀x∈B,x∈H)(hk:k v):Ld H p k:=by
 obtain⟨b,o,c,T,fz,h1,h2,h3⟩:=h
 exact⟨b,o,c,T,fz,v,h1,hs _ h2,by simpa using h3 0 v rfl,hk⟩
theorem ay.at{p:Value}{r:List Value}{B:Hp}{n:Nat}{k:Value→Prop}(h:At B p r)(hn:r.length=n)(hp:0<n)(hs:∀x∈B,x∈H)(hk:k (.agg r.toArray)):ay n H p k:=by
 obtain⟨b,o,c,T,fz,h1,h2,h3⟩:=h
 have hsz:o+n≤c.size:=by
  have:=h3 (n-1) (r[n-1]'(by omega)) (List.getElem?_eq_getElem _)
  have:=(Array.getElem?_eq_some_iff.1 this).1
  omega
 refine⟨b,o,c,T,fz,h1,hs _ h2,hsz,?_⟩
 have:c.extract o (o+n)=r.toArray:=by
  apply Array.ext
  ·simp;omega
  ·intro i KI zV
   simp only[List.size_toArray]at zV
   have:=h3 i r[i] (List.getElem?_eq_getElem _)
   rw[Array.getElem_extract]
   have:=(Array.getElem?_eq_some_iff.1 this).2
   simpa using this
 rw[this];exact hk
def Sl(k:Nat)(B:Hp)(v:Value)(rs:List (List Value)):Prop:=
 (∀r∈rs,r.length=k)∧
 ((∃a cap,v=.slice a 0 cap∧rs=[])∨∃b o cap c T fz,v=.slice (some ⟨b,o,none⟩) rs.length cap∧rs.length≤cap∧(b,Obj.cells c T fz)∈B∧o+rs.length*k≤c.size∧∀i r,rs[i]? =some r→∀j v,r[j]? =some v→c[o+i*k+j]? =some v)
theorem Sl.mono{k:Nat}{B B':Hp}{v:Value}{rs:List (List Value)}(h:Sl k B v rs)(hs:∀x∈B,x∈B'):Sl k B' v rs:=by
 obtain⟨h0,h⟩:=h
 refine⟨h0,?_⟩
 rcases h with h|⟨b,o,cap,c,T,fz,h1,h2,h3,h4⟩
 ·exact .inl h
 ·exact .inr ⟨b,o,cap,c,T,fz,h1,h2,hs _ h3,h4⟩
theorem Sl.nil(k:Nat)(B:Hp):Sl k B (.slice none 0 0) []:=⟨by simp,.inl ⟨_,_,rfl,rfl⟩⟩
theorem Sl.shape{k:Nat}{B:Hp}{v:Value}{rs:List (List Value)}(h:Sl k B v rs):∃a cap,v=.slice a rs.length cap∧rs.length≤cap:=by
 rcases h.2 with⟨a,cap,rfl,rfl⟩|⟨b,o,cap,c,T,fz,h1,h2,_⟩
 ·exact⟨_,_,rfl,Nat.zero_le _⟩
 ·exact⟨_,_,h1,h2⟩
theorem Sl.cP{k:Nat}{B:Hp}{v:Value}{rs:List (List Value)}(h:Sl k B v rs){K:Value→Prop}(hk:K (.int .i64 rs.length)):aM v K:=by
 obtain⟨a,c,rfl,_⟩:=h.shape;exact aM.mk hk
theorem ai.sl{k:Nat}{B:Hp}{v:Value}{rs:List (List Value)}{kd:IntKind}{i:Nat}{r:List Value}{K:Value→Prop}(h:Sl k B v rs)(hi:rs[i]? =some r)(hk:∀p,At B p r→K p):ai k v (.int kd (i:Int)) K:=by
 have hlt:=(List.getElem?_eq_some_iff.1 hi).1
 rcases h.2 with⟨a,cap,rfl,rfl⟩|⟨b,o,cap,c,T,fz,h1,h2,h3,h4,h5⟩
 ·simp at hlt
 ·subst h1
  refine ai.nat (by omega) (hk _ ⟨b,_,c,T,fz,rfl,h3,fun j v hj=>h5 i r hi j v hj⟩)
theorem Sl.cells{k:Nat}{B:Hp}{v:Value}{rs:List (List Value)}(h:Sl k B v rs):∃a cap,v=.slice a rs.length cap∧Cells B a (rs.length*k) (rows rs):=by
 rcases h.2 with⟨a,cap,rfl,rfl⟩|⟨b,o,cap,c,T,fz,h1,h2,h3,h4,h5⟩
 ·refine⟨a,cap,rfl,?_⟩
  cases a with
  |none=>simp[Cells,rows]
  |some a=>exact .inl ⟨by simp,rfl⟩
 ·refine⟨_,cap,h1,.inr ⟨rfl,c,T,fz,h3,h4,?_⟩⟩
  apply Array.ext
  ·rw[bf h.1];simp;omega
  ·intro i KI zV
   rw[bf h.1]at KI
   have hk:0<k:=Nat.pos_of_ne_zero fun e=>by simp[e]at KI
   have hd:i/k<rs.length:=Nat.div_lt_of_lt_mul (by rw[Nat.mul_comm];exact KI)
   have hm:i%k<k:=Nat.mod_lt _ hk
   have he:i/k*k+i%k=i:=by rw[Nat.mul_comm];exact Nat.div_add_mod i k
   have hr:=h.1 rs[i/k] (List.getElem_mem hd)
   have g1:=eL h.1 (i:=i/k) hm
   rw[he,List.getElem?_eq_getElem hd,Option.bind_some,List.getElem?_eq_getElem (by omega)]at g1
   have g2:=h5 (i/k) _ (List.getElem?_eq_getElem hd) (i%k) _ (List.getElem?_eq_getElem (by omega))
   rw[Nat.add_assoc,he]at g2
   have e1:=(Array.getElem?_eq_some_iff.1 g1).2
   have e2:=(Array.getElem?_eq_some_iff.1 g2).2
   rw[Array.getElem_extract]
   exact e1.trans e2.symm
theorem Sl.mT{T:TypeId}{k:Nat}{v:Value}{rs:List (List Value)}{C:Hp}(h:aI T k v rs C)(hk:0<k):Sl k C v rs:=by
 rcases h with⟨rfl,rfl,rfl⟩|⟨b,ax,rfl,rfl,aD⟩
 ·exact Sl.nil _ _
 ·refine⟨fun r hr=>aD r (by simp[hr]),.inr ⟨b,0,_,rows (rs++ax),T,(0,0),rfl,by omega,by simp,?_,fun i r hi j v hj=>?_⟩⟩
  ·rw[bf aD,List.length_append,Nat.zero_add];exact Nat.mul_le_mul_right _ (by omega)
  ·have hlt:=(List.getElem?_eq_some_iff.1 hi).1
   have hr:=aD r (List.mem_append_left _ (List.mem_of_getElem? hi))
   have G0:j<k:=by rw[←hr];exact(List.getElem?_eq_some_iff.1 hj).1
   rw[Nat.zero_add,eL aD G0,List.getElem?_append_left hlt,hi];exact hj
end
end Go.Sx
namespace Go.Sx
open Go
def dc:IntKind→Nat
 | .i8=>128| .i16=>32768| .i32=>2147483648| .i64=>9223372036854775808
 | .u8=>256| .u16=>65536| .u32=>4294967296| .u64=>18446744073709551616
theorem dK{kd:IntKind}{n:Nat}(h:n<dc kd):kd.wrap (n:Int)=n:=by
 cases kd<;>simp only[dc]at h<;>simp only[IntKind.wrap,IntKind.bits,IntKind.signed,Bool.false_and,Bool.true_and,Bool.false_eq_true,if_false,decide_eq_true_eq]
 all_goals first
  |omega
  |(rw[if_neg (by simp;omega)];omega)
theorem wrap_u64(n:Int):IntKind.u64.wrap n=n%18446744073709551616:=by simp[IntKind.wrap,IntKind.bits,IntKind.signed]
theorem BX(kd:IntKind):dc kd≤2^kd.bits:=by cases kd<;>decide
def pL(a b:Nat):Nat:=a^^^(a&&&b)
theorem gN(a b j:Nat):(pL a b).testBit j=(a.testBit j&& !b.testBit j):=by
 unfold pL;rw[Nat.testBit_xor,Nat.testBit_and];cases a.testBit j<;>cases b.testBit j<;>rfl
theorem yV(a b:Nat):pL a b≤a:=by
 have:pL a b=a&&&pL a b:=by
  apply Nat.eq_of_testBit_eq;intro j
  rw[Nat.testBit_and,gN];cases a.testBit j<;>simp
 rw[this];exact Nat.and_le_left
theorem bits_nat{kd:IntKind}{a b:Nat}(ha:a<dc kd)(hb:b<dc kd):
  bits .and kd a b=((a&&&b:Nat):Int)∧bits .or kd a b=((a|||b:Nat):Int)∧bits .xor kd a b=((a^^^b:Nat):Int)∧bits .andNot kd a b=((pL a b:Nat):Int):=by
 have hl:=BX kd
 have h1:(BitVec.ofInt kd.bits (a:Int)).toNat=a:=by rw[BitVec.ofInt_natCast,BitVec.toNat_ofNat,Nat.mod_eq_of_lt (by omega)]
 have h2:(BitVec.ofInt kd.bits (b:Int)).toNat=b:=by rw[BitVec.ofInt_natCast,BitVec.toNat_ofNat,Nat.mod_eq_of_lt (by omega)]
 obtain⟨n,hn⟩:∃n,dc kd=2^n:=by cases kd<;>first|exact⟨7,rfl⟩|exact⟨15,rfl⟩|exact⟨31,rfl⟩|exact⟨63,rfl⟩|exact⟨8,rfl⟩|exact⟨16,rfl⟩|exact⟨32,rfl⟩|exact⟨64,rfl⟩
 rw[hn]at ha hb
 refine⟨?_,?_,?_,?_⟩
 ·simp only[bits,BitVec.toNat_and,h1,h2]
  exact dK (by rw[hn];exact Nat.lt_of_le_of_lt Nat.and_le_left ha)
 ·simp only[bits,BitVec.toNat_or,h1,h2]
  exact dK (by rw[hn];exact Nat.or_lt_two_pow ha hb)
 ·simp only[bits,BitVec.toNat_xor,h1,h2]
  exact dK (by rw[hn];exact Nat.xor_lt_two_pow ha hb)
 ·simp only[bits]
  have:(BitVec.ofInt kd.bits (a:Int) &&& ~~~BitVec.ofInt kd.bits (b:Int)).toNat=pL a b:=by
   apply Nat.eq_of_testBit_eq;intro j
   rw[gN,←BitVec.getLsbD,BitVec.getLsbD_and,BitVec.getLsbD_not,BitVec.getLsbD,BitVec.getLsbD,h1,h2]
   by_cases hj:j<kd.bits
   ·simp[hj]
   ·have:a.testBit j=false:=Nat.testBit_lt_two_pow (Nat.lt_of_lt_of_le ha (by rw[←hn];exact Nat.le_trans hl (Nat.pow_le_pow_right (by decide) (by omega))))
    simp[this]
  rw[this]
  exact dK (by rw[hn];exact Nat.lt_of_le_of_lt (yV a b) ha)
section
variable {kd rA:IntKind} {a b:Nat} {k:Value→Prop}
theorem aa.Gq(ha:a<dc kd)(hb:b<dc kd)(h:k (.int kd ((a&&&b:Nat):Int))):aa .num .and (.int kd a) (.int kd b) k:=⟨_,by simp[eX,iy,(bits_nat ha hb).1],h⟩
theorem aa.QN(ha:a<dc kd)(hb:b<dc kd)(h:k (.int kd ((a|||b:Nat):Int))):aa .num .or (.int kd a) (.int kd b) k:=⟨_,by simp[eX,iy,(bits_nat ha hb).2.1],h⟩
theorem aa.HA(ha:a<dc kd)(hb:b<dc kd)(h:k (.int kd ((a^^^b:Nat):Int))):aa .num .xor (.int kd a) (.int kd b) k:=⟨_,by simp[eX,iy,(bits_nat ha hb).2.2.1],h⟩
theorem aa.uo(ha:a<dc kd)(h:k (.int kd ((a>>>b:Nat):Int))):aa .num .shr (.int kd a) (.int rA b) k:=by
 refine⟨_,?_,h⟩
 have h0:¬((b:Int)<0):=by omega
 simp only[eX,h0,if_false,Option.some.injEq,Value.int.injEq,true_and,Int.toNat_natCast]
 rw[Int.fdiv_eq_ediv_of_nonneg _ (Int.le_of_lt (Int.pow_pos (by decide))),Nat.shiftRight_eq_div_pow]
 have hl:=BX kd
 by_cases hb:b≤kd.bits
 ·rw[Nat.min_eq_left hb];push_cast;rfl
 ·rw[Nat.min_eq_right (by omega)]
  have h1:a/2^kd.bits=0:=Nat.div_eq_of_lt (by omega)
  have h2:a/2^b=0:=Nat.div_eq_of_lt (Nat.lt_of_lt_of_le (by omega) (Nat.pow_le_pow_right (by decide) (by omega:kd.bits≤b)))
  have:(a:Int) / (2^kd.bits:Int)=((a/2^kd.bits:Nat):Int):=by push_cast;rfl
  rw[this,h1,h2]
theorem aa.ur(h:k (.int .u64 (((a<<<b)%18446744073709551616:Nat):Int))):aa .num .shl (.int .u64 a) (.int rA b) k:=by
 refine⟨_,?_,h⟩
 have h0:¬((b:Int)<0):=by omega
 simp only[eX,h0,if_false,Option.some.injEq,Value.int.injEq,true_and,Int.toNat_natCast,IntKind.bits,wrap_u64]
 rw[Nat.shiftLeft_eq]
 by_cases hb:b≤64
 ·rw[Nat.min_eq_left hb,Int.natCast_emod,Int.natCast_mul,Int.natCast_pow];rfl
 ·rw[Nat.min_eq_right (by omega)]
  have h1:(a*2^b)%18446744073709551616=0:=by
   have:2^b=18446744073709551616*2^(b-64):=by rw[show(18446744073709551616:Nat)=2^64 by rfl,←Nat.pow_add];congr 1;omega
   rw[this,Nat.mul_left_comm];exact Nat.mul_mod_right _ _
  rw[h1]
  exact Int.mul_emod_left _ _
theorem aa.LK(hr:a+b<dc kd)(h:k (.int kd ((a+b:Nat):Int))):aa .num .add (.int kd a) (.int kd b) k:=by
 refine aa.add ?_
 have:((a:Int)+(b:Int))=((a+b:Nat):Int):=by push_cast;rfl
 rw[this,dK hr];exact h
theorem aa.Bn(ha:a<dc kd)(hb:b≤a)(h:k (.int kd ((a-b:Nat):Int))):aa .num .sub (.int kd a) (.int kd b) k:=by
 refine aa.sub ?_
 have:((a:Int) -(b:Int))=((a-b:Nat):Int):=by omega
 rw[this,dK (by omega)];exact h
theorem aa.Nc(hr:a*b<dc kd)(h:k (.int kd ((a*b:Nat):Int))):aa .num .mul (.int kd a) (.int kd b) k:=by
 refine aa.mul ?_
 have:((a:Int)*(b:Int))=((a*b:Nat):Int):=by push_cast;rfl
 rw[this,dK hr];exact h
theorem aa.uU(ha:a<dc kd)(hb:b≠0)(h:k (.int kd ((a/b:Nat):Int))):aa .num .quo (.int kd a) (.int kd b) k:=by
 refine⟨_,?_,h⟩
 have h0:¬((b:Int)=0):=by omega
 simp only[eX,iy,if_true,h0,if_false]
 have:(a:Int).tdiv b=((a/b:Nat):Int):=by rw[Int.tdiv_eq_ediv_of_nonneg (by omega)];push_cast;rfl
 rw[this,dK (Nat.lt_of_le_of_lt (Nat.div_le_self _ _) ha)]
theorem aa.iq{x y:Int}(h:k (.bool (decide (x=y)))):aa .num .eql (.int kd x) (.int kd y) k:=aa.eql (by rw[show(x==y)=decide (x=y)from by cases hb:decide (x=y)<;>simp_all];exact h)
theorem aa.eP{x y:Int}(h:k (.bool (decide (x≠y)))):aa .num .neq (.int kd x) (.int kd y) k:=aa.neq (by rw[show(x !=y)=decide (x≠y)from by cases hb:decide (x=y)<;>simp_all];exact h)
theorem aa.mI(h:k (.bool (decide (a=b)))):aa .num .eql (.int kd a) (.int kd b) k:=aa.iq (by simpa[Int.natCast_inj]using h)
theorem aa.Jm(h:k (.bool (decide (a≠b)))):aa .num .neq (.int kd a) (.int kd b) k:=aa.eP (by simpa[Int.natCast_inj]using h)
theorem aa.iC(h:k (.bool (decide (a<b)))):aa .num .lss (.int kd a) (.int kd b) k:=aa.lss (by simpa[Int.ofNat_lt]using h)
theorem aa.zF(h:k (.bool (decide (a≤b)))):aa .num .leq (.int kd a) (.int kd b) k:=aa.leq (by simpa[Int.ofNat_le]using h)
theorem aa.pA(h:k (.bool (decide (b<a)))):aa .num .gtr (.int kd a) (.int kd b) k:=aa.gtr (by simpa[Int.ofNat_lt]using h)
theorem aa.rK(h:k (.bool (decide (b≤a)))):aa .num .geq (.int kd a) (.int kd b) k:=aa.geq (by simpa[Int.ofNat_le]using h)
theorem bB.nat(ha:a<dc kd)(h:k (.int kd (a:Int))):bB kd (.int rA a) k:=bB.of (dK ha) h
end
theorem Br.dec{p:Prop}[Decidable p]{t f:Prop}(h1:p→t)(h2:¬p→f):Br (.bool (decide p)) t f:=⟨_,rfl,fun h=>h1 (by simpa using h),fun h=>h2 (by simpa using h)⟩
theorem Br.OZ{p:Prop}[Decidable p]{t f:Prop}(hp:p)(h1:t):Br (.bool (decide p)) t f:=Br.dec (fun _=>h1) fun h=>absurd hp h
theorem Br.Gf{p:Prop}[Decidable p]{t f:Prop}(hp:¬p)(h1:f):Br (.bool (decide p)) t f:=Br.dec (fun h=>absurd h hp) fun _=>h1
end Go.Sx
namespace eH
open Go.Sx
def wN(n:Nat):Nat:=max 1 (2^n/64)
def yB(n:Nat):Nat:=if 6≤n then 18446744073709551615 else 2^2^n-1
structure O9(n:Nat)(ws:List Nat):Prop where
 Tt:n≤16
 len:ws.length=wN n
 full:∀w∈ws,w≤yB n
instance (n:Nat)(ws:List Nat):Decidable (O9 n ws):=decidable_of_iff (n≤16∧ws.length=wN n∧∀w∈ws,w≤yB n) ⟨fun⟨a,b,c⟩=>⟨a,b,c⟩,fun⟨a,b,c⟩=>⟨a,b,c⟩⟩
def aO(x v:Nat)(b:Bool):Nat:=if b then x|||2^v else pL x (2^v)
def LD(v:Nat):Nat→Nat
 |0=>0
 |j+1=>LD v j|||(((j>>>v) &&&1)<<<j)
def mask(v:Nat):Nat:=LD v 64
theorem vi(m:Nat):m&&&1=if m.testBit 0 then 1 else 0:=by
 rw[Nat.and_one_is_mod,Nat.testBit_zero]
 rcases Nat.mod_two_eq_zero_or_one m with h|h<;>simp[h]
def KZ(ws:List Nat)(v:Nat)(b:Bool)(i:Nat):Nat:=
 if 6≤v then ws.getD (aO i (v-6) b) 0
 else if b then(ws.getD i 0&&&mask v)|||(ws.getD i 0&&&mask v)>>>2^v
 else pL (ws.getD i 0) (mask v)|||(pL (ws.getD i 0) (mask v)<<<2^v)%18446744073709551616
def MI(n:Nat)(ws:List Nat)(v:Nat)(b:Bool):List Nat:=(List.range (wN n)).map fun i=>KZ ws v b i&&&yB n
theorem ah(x v:Nat)(b:Bool)(k:Nat):(aO x v b).testBit k=if k=v then b else x.testBit k:=by
 unfold aO
 cases b<;>simp only[if_true,Bool.false_eq_true,if_false]
 ·rw[gN,Nat.testBit_two_pow]
  by_cases e:k=v
  ·simp[e]
  ·simp[e,Ne.symm e]
 ·rw[Nat.testBit_or,Nat.testBit_two_pow]
  by_cases e:k=v
  ·simp[e]
  ·simp[e,Ne.symm e]
theorem EH{x v n:Nat}{b:Bool}(hx:x<2^n)(hv:v<n):aO x v b<2^n:=by
 unfold aO
 split
 ·exact Nat.or_lt_two_pow hx (Nat.pow_lt_pow_right (by decide) hv)
 ·exact Nat.lt_of_le_of_lt (yV _ _) hx
def dep(n:Nat)(ws:List Nat)(v:Nat):Bool:=decide (MI n ws v false≠MI n ws v true)
theorem jo(x v:Nat):aO x v (x.testBit v)=x:=by
 apply Nat.eq_of_testBit_eq;intro k
 rw[ah]
 by_cases e:k=v
 ·rw[if_pos e,e]
 ·rw[if_neg e]
end eH
namespace Go.Sx
open Go
inductive iB:Hp→Hp→Prop
 |refl (B:Hp):iB B B
 |cons {x:Nat×Obj} {B H:Hp} (h:iB B H):iB B (x::H)
 |app {N B H:Hp} (h:iB B H):iB B (N++H)
theorem iB.spec{B H:Hp}(h:iB B H):∃N,H=N++B:=by
 induction h with
 |refl=>exact⟨[],rfl⟩
 | @cons x B H h ih=>obtain⟨N,rfl⟩:=ih;exact⟨x::N,rfl⟩
 | @app M B H h ih=>obtain⟨N,rfl⟩:=ih;exact⟨M++N,by rw[List.append_assoc]⟩
theorem iB.gg{B H:Hp}(h:iB B H):aR H B:=by
 obtain⟨N,rfl⟩:=h.spec;exact aR.right
section
variable {P:Program} {g:Gh} {H:Hp}
def Px(P:Program)(f:FuncId)(args:Array Value)(B:Hp)(Q:Value→Hp→Prop):Prop:=Fc P f args B (fun v H=>iB B H∧Q v H)
theorem ae.pre{f:FuncId}{args:Array Value}{H':Hp}{K:Value→Hp→Prop}{KP:List PanicEntry→Hp→Prop}(he:aR H H')(h:ae P g f args H' K KP):ae P g f args H K KP:=bG.pre h he
theorem aR.swap{x y:Nat×Obj}{A:Hp}:aR (x::y::A) (y::x::A):=.perm (.swap _ _ _)
theorem Qt.mk{Q:Value→Hp→Prop}{v:Value}{B H:Hp}(he:iB B H)(h:Q v H):aZ (fun v H=>iB B H∧Q v H) (.returned v) H:=⟨v,H,rfl,.refl _,he,h⟩
theorem bC.mk{Q:Value→Prop}{v:Value}{B H:Hp}(he:aR H B)(h:Q v):aZ (fun v H=>H=B∧Q v) (.returned v) H:=⟨v,B,rfl,he,rfl,h⟩
def au(kd:IntKind)(l:List Int):Array Value:=(l.map fun n=>Value.int kd n).toArray
theorem uI(kd:IntKind)(l:List Int)(i:Nat)(n:Int):(au kd l).setIfInBounds i (.int kd n)=au kd (l.set i n):=by
 simp[au,List.map_set]
@[simp] theorem GQ(kd:IntKind)(l:List Int):(au kd l).size=l.length:=by simp[au]
theorem zB(kd:IntKind)(n:Nat):madeCells (Value.cells (.int kd 0)) (n*1)=au kd (List.replicate n 0):=by
 apply Array.ext
 ·simp[madeCells,au]
 ·intro i h1 h2
  simp[madeCells,au,Value.cells,Nat.mod_one]
def fR(kd:IntKind)(B:Hp)(v:Value)(l:List Int):Prop:=Sl 1 B v (l.map fun n=>[Value.int kd n])
theorem fR.mono{kd:IntKind}{B B':Hp}{v:Value}{l:List Int}(h:fR kd B v l)(hs:∀x∈B,x∈B'):fR kd B' v l:=Sl.mono h hs
theorem fR.cP{kd:IntKind}{B:Hp}{v:Value}{l:List Int}(h:fR kd B v l){K:Value→Prop}(hk:K (.int .i64 l.length)):aM v K:=Sl.cP h (by simpa using hk)
theorem fR.block{kd:IntKind}{B:Hp}{b cap:Nat}{l:List Int}{T:TypeId}{fz:Nat×Nat}(hm:(b,Obj.cells (au kd l) T fz)∈B)(hc:l.length≤cap):fR kd B (.slice (some ⟨b,0,none⟩) l.length cap) l:=by
 refine⟨by simp,.inr ⟨b,0,cap,_,T,fz,by simp,by simpa using hc,hm,by simp[au],fun i r hi j v hj=>?_⟩⟩
 rw[List.getElem?_map]at hi
 cases hl:l[i]? with
 |none=>rw[hl]at hi;simp at hi
 |some n=>
  rw[hl]at hi
  simp only[Option.map_some,Option.some.injEq]at hi
  subst hi
  cases j with
  |zero=>
   simp only[List.getElem?_cons_zero,Option.some.injEq]at hj
   subst hj
   simp[au,hl]
  |succ j=>simp at hj
theorem fR.at{kd rA:IntKind}{B:Hp}{v:Value}{l:List Int}(h:fR kd B v l){i:Nat}{n:Int}(hi:l[i]? =some n){K:Value→Prop}(hk:∀p,At B p [.int kd n]→K p):ai 1 v (.int rA (i:Int)) K:=
 ai.sl h (by rw[List.getElem?_map,hi];rfl) hk
theorem fR.ld{kd rA:IntKind}{B:Hp}{v:Value}{l:List Int}(h:fR kd B v l){i:Nat}{n:Int}(hi:l[i]? =some n)(hs:∀x∈B,x∈H){K:Value→Prop}(hk:K (.int kd n)):ai 1 v (.int rA (i:Int)) (fun p=>Ld H p K):=
 h.at hi fun p hp=>Ld.at hp hs hk
theorem eJ.ints{T:TypeId}{kd kl:IntKind}{bytes n:Nat}{K:Value→Hp→Prop}(cc:n≤9223372036854775807)(hb:n*bytes≤281474976710656)
 (h:∀b,K (.slice (some ⟨b,0,none⟩) n n) ((b,.cells (au kd (List.replicate n 0)) T (0,0))::H)):eJ T 1 bytes (.int kd 0) H (.int kl n) (.int kl n) K:=
 ⟨kl,kl,n,n,rfl,rfl,Nat.le_refl _,by omega,hb,fun b _=>by rw[zB];exact h b⟩
theorem St.ints{b i:Nat}{kd:IntKind}{l:List Int}{x:Int}{T:TypeId}{H':Hp}{K:Hp→Prop}(hu:ct b (.cells (au kd l) T (0,0)) (.cells (au kd (l.set i x)) T (0,0)) H H')(hi:i<l.length)(h:K H'):
  St 1 H (.pointer (some ⟨b,0+i*1,none⟩)) (.int kd x) K:=
 St.one (c:=au kd l) (c':=au kd (l.set i x)) hu rfl (by simpa using hi) (by rw[Nat.zero_add,Nat.mul_one];exact uI kd l i x) h
end
def ca:List Value→Nat→Nat
 | .int _ q::_,0=>q.toNat
 |_::r,i+1=>ca r i
 |_,_=>0
structure Tb where
 n:Int
 ws:List Nat
 deriving DecidableEq
def iw(ws:List Nat):List Int:=ws.map (Nat.cast:Nat→Int)
@[simp] theorem aC(ws:List Nat):(iw ws).length=ws.length:=by simp[iw]
theorem iS{ws:List Nat}{i w:Nat}(h:ws[i]? =some w):(iw ws)[i]? =some (w:Int):=by simp[iw,h]
def TF(t:Tb):Prop:=0≤t.n∧eH.O9 t.n.toNat t.ws
instance (t:Tb):Decidable (TF t):=by unfold TF;infer_instance
end Go.Sx
namespace Go.Sx
open Go Go.RowKit
section
variable {P:Program}
def whole(W:World):Hp:=(List.range W.heap.size).map fun i=>(i,W.heap.getD i default)
theorem zu(W:World):Own ⟨W,[]⟩ (whole W) W:=by
 refine⟨rfl,rfl,rfl,?_,?_⟩
 ·have:(whole W).map Prod.fst=List.range W.heap.size:=by
   unfold whole
   rw[List.map_map]
   have:(Prod.fst∘fun i=>(i,W.heap.getD i default))=id:=by funext i;rfl
   rw[this,List.map_id]
  rw[List.append_nil,this];exact List.nodup_range
 ·intro x hx
  rw[List.append_nil]at hx
  obtain⟨i,hi,rfl⟩:=List.mem_map.1 hx
  have:=List.mem_range.1 hi
  simp[Array.getD_eq_getD_getElem?,this]
theorem Own.below{W W':World}(h:Own ⟨W,[]⟩ (whole W) W'):Below W.heap.size W W':=by
 have hb:∀k,k<W.heap.size→W'.heap[k]? =W.heap[k]? :=fun k hk=>by
  have:=h.has (k,W.heap.getD k default) (List.mem_map.2 ⟨k,List.mem_range.2 hk,rfl⟩)
  simp only at this
  rw[this];simp[Array.getD_eq_getD_getElem?,hk]
 refine⟨h.os,h.tape,h.out,?_,hb⟩
 rcases Nat.eq_zero_or_pos W.heap.size with h0|h0
 ·omega
 ·have:=hb (W.heap.size-1) (by omega)
  rw[show W.heap[W.heap.size-1]? =some (W.heap[W.heap.size-1]'(by omega))from Array.getElem?_eq_getElem (by omega)]at this
  have:=(Array.getElem?_eq_some_iff.1 this).1
  omega
theorem zG{f:FuncId}{args:Array Value}{W:World}(h:bG P ⟨W,[]⟩ f args (whole W) (fun e H'=>e=.returned (.bool true)∧aR H' (whole W))):
  Calls P f args W fun e W'=>e=.returned (.bool true)∧Below W.heap.size W W':=
 (h W (zu W)).mono fun e W' ⟨H',ho,he,mE⟩=>⟨he,(mE _ _ ho).below⟩
theorem H9{f:FuncId}{args:Array Value}{W:World}(h:Px P f args (whole W) (fun v _=>v=.bool true)):
  Calls P f args W fun e W'=>e=.returned (.bool true)∧Below W.heap.size W W':=
 zG ((h ⟨W,[]⟩).post fun e H' ⟨v,C,he,mE,hg,hv⟩=>⟨H',.refl _,by rw[he,hv],mE.trans hg.gg⟩)
section
variable {H:Type} {enc:TypeId×Value→H}
open Go.ChangeShapes Go.WideShapes Go.ChangeAt Go.RowKit
theorem jS(hl:laidOutB P=true){W W':World}{sp:Nat→Bool}(hb:Below W.heap.size W W'):∀(ts:List TypeId) (vs:List Value) (ds:List (DataW H)) (ps:List MemPlace),
  (∀t∈ts,P.readableRec t=true∧t<P.types.size)→DataW.TrodAll enc P W 0 (fun _=>true) true ts vs ds ps→(∀x∈ps,x.block<W.heap.size)→(∀x∈ps,sp x.block=true)→DataW.TrodAll enc P W' 0 sp true ts vs ds ps
 | [],vs,ds,ps,_,h,_,_=>by
  obtain⟨rfl,rfl,rfl⟩:=trodAll_nil h;exact trodAll_mk0
 |t::ts,vs,ds,ps,hr,h,hlt,hsp=>by
  obtain⟨v,vs',d,ds',p,q,rfl,rfl,rfl,h0,h1⟩:=trodAll_cons h
  have ht:=hr t (by simp)
  exact trodAll_cons_mk (WideElems.Trod_stays hl ht.1 ht.2 h0 (fun x hx=>hb.same (hlt x (by simp[hx]))) (fun x hx=>hsp x (by simp[hx])))
   (jS hl hb ts vs' ds' q (fun t' h'=>hr t' (by simp[h'])) h1 (fun x hx=>hlt x (by simp[hx])) (fun x hx=>hsp x (by simp[hx])))
theorem B1{f:Func}{s:ChangeSpec}{W W':World}{args:Array Value}{ds gs:List (DataW H)}{before:List MemPlace}{tb:TypeId}(hvars:s.vars=[])
 (hW:DataW.Whole enc P f.params.toList s.vars false W args.toList ds gs before)(hs:s.fn H (ds++gs)={results:=[.lit (.bool true)],args:=ds})(hb:Below W.heap.size W W')
 (hl:laidOutB P=true)(hr:∀t∈f.params.toList,P.readableRec t=true∧t<P.types.size)(Ri:f.resultTypes=#[tb])(KU:P.underlying tb=some .bool):
  s.post enc P f false true false false W args (.bool true) W':=by
 have Mv:=hW
 have hlt:=hW.lt
 obtain⟨p,q,hA,hV,rfl,hfz,fI⟩:=hW
 rw[hvars]at hV
 obtain⟨rfl,rfl⟩:=trodVars_none hV
 refine⟨ds,_,_,[],p,[],Mv,?_,?_,?_,World.keptBut_mono (fun p hp=>⟨hp,?_⟩) (hb.frame (· ∈p++[])),fun h=>by cases h⟩
 ·rw[hs,Ri];exact trodAll_cons_mk (shut_bool KU _) trodAll_mk0
 ·rw[hs]
  exact jS hl hb _ _ _ _ hr hA (fun x hx=>hlt x (by simp[hx])) (fun x hx=>by simpa using hlt x (by simp[hx]))
 ·rw[hvars,hs];rfl
 ·right;simpa using hp
end
end
end Go.Sx
namespace Go.Sx
open Go
section
variable {P:Program} {g:Gh} {H:Hp}
theorem aI.Qm{T:TypeId}{v x:Value}{rs:List (List Value)}{C:Hp}(hs:aI T 1 v rs C){i:Nat}(hi:i<rs.length)(hr:rs[i]? =some [x])(hC:∀y∈C,y∈H){K:Value→Prop}(hk:K x):
  ai 1 v (.int .i64 (i:Int)) fun p=>Ld H p K:=by
 obtain⟨b',ax,rfl,rfl,aD⟩:=hs.pos (by omega)
 refine ai.nat hi ?_
 exact Ld.JW (l:=rs++ax) (hC _ (List.Mem.head _)) aD (by rw[List.getElem?_append_left hi];exact hr) hk
theorem aI.M5{T:TypeId}{v x y:Value}{rs:List (List Value)}{C A B:Hp}(hs:aI T 1 v rs C){i:Nat}(hi:i<rs.length)(hr:rs[i]? =some [y])(h1:x.oneCell'=true){K:Hp→Prop}
 (hk:∀C',aI T 1 v (rs.set i [x]) C'→K (A++(C'++B))):ai 1 v (.int .i64 (i:Int)) fun p=>St 1 (A++(C++B)) p x K:=by
 obtain⟨b',ax,rfl,rfl,aD⟩:=hs.pos (by omega)
 refine ai.nat hi ?_
 refine St.cell (l:=rs++ax) (i:=i) (k:=1) (j:=0) (r:=[y]) (((ct.head _).append B).bL A) aD (by rw[List.getElem?_append_left hi];exact hr) (by omega) h1 ?_
 have e:(rs++ax).set i ([y].set 0 x)=rs.set i [x]++ax:=by rw[List.set_append_left _ _ hi];rfl
 rw[e]
 refine hk [(b',_)] (aI.mk' (ax:=ax) (fun r hr'=>?_) (by simp) (by simp))
 rcases List.mem_append.1 hr' with hr'|hr'
 ·rcases List.mem_or_eq_of_mem_set hr' with hr'|rfl
  ·exact aD r (by simp[hr'])
  ·rfl
 ·exact aD r (by simp[hr'])
end
end Go.Sx
namespace Go.Sx
open Go
section
variable {κ β:Type} [DecidableEq κ]
structure aE(ke:κ→Value)(vr:Value→β→Prop)(es:Array MapEntry)(ck:Nat)(m:List (κ×β)):Prop where
 len:es.size=m.length
 key:∀(i:Nat) (e:MapEntry) (x:κ×β),es[i]? =some e→m[i]? =some x→e.key=ke x.1∧vr e.val x.2
 nd:(m.map Prod.fst).Nodup
 born:(es.toList.map MapEntry.born).Nodup
 lt:∀e∈es.toList,e.born<ck
variable {ke:κ→Value} {vr:Value→β→Prop} {es:Array MapEntry} {ck:Nat} {m:List (κ×β)}
theorem aE.empty:aE ke vr #[] 0 []:=⟨rfl,by simp,by simp,by simp,by simp⟩
theorem aE.mono{Pe:Value→β→Prop}(h:aE ke vr es ck m)(hv:∀v x,vr v x→Pe v x):aE ke Pe es ck m:=⟨h.len,fun i e x h1 h2=>⟨(h.key i e x h1 h2).1,hv _ _ (h.key i e x h1 h2).2⟩,h.nd,h.born,h.lt⟩
def eR(m:List (κ×β))(k:κ)(x:β):List (κ×β):=if k∈m.map Prod.fst then m.map (fun y=>if y.1=k then(k,x)else y)else m++[(k,x)]
def aJ(m:List (κ×β))(k:κ):Option β:=(m.find? (fun y=>y.1=k)).map Prod.snd
theorem cR{m:List (κ×β)}{k:κ}{x:β}(nd:(m.map Prod.fst).Nodup):aJ m k=some x↔(k,x)∈m:=by
 induction m with
 |nil=>simp[aJ]
 |cons y r ih=>
  rw[List.map_cons,List.nodup_cons]at nd
  obtain⟨a,b⟩:=y
  simp only[aJ,List.find?_cons]at ih⊢
  by_cases e:a=k
  ·subst e
   simp only[decide_true,Option.map_some,Option.some.injEq,List.mem_cons,Prod.mk.injEq,true_and]
   constructor
   ·intro h;exact .inl h.symm
   ·rintro(h|h)
    ·exact h.symm
    ·exact absurd (List.mem_map.2 ⟨_,h,rfl⟩) nd.1
  ·simp only[e,decide_false,List.mem_cons,Prod.mk.injEq,Ne.symm e,false_and,false_or]
   exact ih nd.2
theorem gw{m:List (κ×β)}{k:κ}:aJ m k=none↔k∉m.map Prod.fst:=by
 simp only[aJ,Option.map_eq_none_iff,List.find?_eq_none,decide_eq_true_eq,List.mem_map,not_exists,not_and]
theorem aE.findNow{kd:TypeDesc}(hk:∀a b,Instr.sameNow kd (ke a) (ke b)=some (decide (a=b)))(h:aE ke vr es ck m)(k:κ):
  (∃(i:Nat) (x:β) (e:MapEntry),es[i]? =some e∧m[i]? =some (k,x)∧vr e.val x∧Instr.findNow kd (ke k) es.toList 0=some (some (i,e.val)))∨(k∉m.map Prod.fst∧Instr.findNow kd (ke k) es.toList 0=some none):=by
 have key:∀(l:List MapEntry) (q:List (κ×β)) (j:Nat),l.length=q.length→(∀(i:Nat) (e:MapEntry) (x:κ×β),l[i]? =some e→q[i]? =some x→e.key=ke x.1∧vr e.val x.2)→
   (∃(i:Nat) (x:β) (e:MapEntry),l[i]? =some e∧q[i]? =some (k,x)∧vr e.val x∧Instr.findNow kd (ke k) l j=some (some (j+i,e.val)))∨(k∉q.map Prod.fst∧Instr.findNow kd (ke k) l j=some none):=by
  intro l
  induction l with
  |nil=>intro q j hl _;cases q with|nil=>exact .inr ⟨by simp,rfl⟩|cons a b=>simp at hl
  |cons e r ih=>
   intro q j hl hkey
   cases q with
   |nil=>simp at hl
   |cons y q=>
    obtain⟨h1,h2⟩:=hkey 0 e y rfl rfl
    simp only[Instr.findNow,h1,hk]
    by_cases e0:k=y.1
    ·subst e0
     exact .inl ⟨0,y.2,e,rfl,rfl,h2,by simp⟩
    ·rw[decide_eq_false e0]
     rcases ih q (j+1) (by simpa using hl) (fun i e x h1 h2=>hkey (i+1) e x (by simpa using h1) (by simpa using h2))with⟨i,x,e',g1,g2,g3,g4⟩|⟨g1,g2⟩
     ·exact .inl ⟨i+1,x,e',by simpa using g1,by simpa using g2,g3,by simp only[g4];rw[show j+1+i=j+(i+1)by omega]⟩
     ·exact .inr ⟨by rw[List.map_cons,List.mem_cons];rintro(h|h);exact e0 h;exact g1 h,by simpa using g2⟩
 have:=key es.toList m 0 (by simpa using h.len) (fun i e x h1 h2=>h.key i e x (by simpa using h1) h2)
 rcases this with⟨i,x,e,g1,g2,g3,g4⟩|h2
 ·exact .inl ⟨i,x,e,by simpa using g1,g2,g3,by simpa using g4⟩
 ·exact .inr h2
theorem aE.td{P:Program}{kt:TypeId}(hk:∀a b,xQ P kt (ke a) (ke b) (decide (a=b)))(h:aE ke vr es ck m)(k:κ):
  (∃(i:Nat) (x:β) (e:MapEntry),es[i]? =some e∧m[i]? =some (k,x)∧vr e.val x∧ir P kt (ke k) es.toList 0 (some (i,e.val)))∨(k∉m.map Prod.fst∧ir P kt (ke k) es.toList 0 none):=by
 have key:∀(l:List MapEntry) (q:List (κ×β)) (j:Nat),l.length=q.length→(∀(i:Nat) (e:MapEntry) (x:κ×β),l[i]? =some e→q[i]? =some x→e.key=ke x.1∧vr e.val x.2)→
   (∃(i:Nat) (x:β) (e:MapEntry),l[i]? =some e∧q[i]? =some (k,x)∧vr e.val x∧ir P kt (ke k) l j (some (j+i,e.val)))∨(k∉q.map Prod.fst∧ir P kt (ke k) l j none):=by
  intro l
  induction l with
  |nil=>intro q j hl _;cases q with|nil=>exact .inr ⟨by simp,rfl⟩|cons a b=>simp at hl
  |cons e r ih=>
   intro q j hl hkey
   cases q with
   |nil=>simp at hl
   |cons y q=>
    obtain⟨h1,h2⟩:=hkey 0 e y rfl rfl
    have hb:=hk k y.1
    rw[←h1]at hb
    by_cases e0:k=y.1
    ·refine .inl ⟨0,y.2,e,rfl,by rw[e0];rfl,h2,?_⟩
     exact⟨_,hb,fun _=>by simp,fun h=>by simp[e0]at h⟩
    ·rcases ih q (j+1) (by simpa using hl) (fun i e x h1 h2=>hkey (i+1) e x (by simpa using h1) (by simpa using h2))with⟨i,x,e',g1,g2,g3,g4⟩|⟨g1,g2⟩
     ·refine .inl ⟨i+1,x,e',by simpa using g1,by simpa using g2,g3,_,hb,fun h=>by simp[e0]at h,fun _=>?_⟩
      rw[show j+(i+1)=j+1+i by omega];exact g4
     ·exact .inr ⟨by rw[List.map_cons,List.mem_cons];rintro(h|h);exact e0 h;exact g1 h,_,hb,fun h=>by simp[e0]at h,fun _=>g2⟩
 have:=key es.toList m 0 (by simpa using h.len) (fun i e x h1 h2=>h.key i e x (by simpa using h1) h2)
 rcases this with⟨i,x,e,g1,g2,g3,g4⟩|h2
 ·exact .inl ⟨i,x,e,by simpa using g1,g2,g3,by simpa using g4⟩
 ·exact .inr h2
theorem aE.put(h:aE ke vr es ck m){i:Nat}{k:κ}{y x:β}{val:Value}(hi:m[i]? =some (k,y))(hv:vr val x):aE ke vr (es.modify i fun e=>{e with key:=ke k,val}) ck (eR m k x):=by
 have hmem:k∈m.map Prod.fst:=List.mem_map.2 ⟨_,List.mem_of_getElem? hi,rfl⟩
 have hlt:=(List.getElem?_eq_some_iff.1 hi).1
 have Kj:∀j z,m[j]? =some z→z.1=k→j=i:=fun j z hj hz=>by
  have hj':=(List.getElem?_eq_some_iff.1 hj).1
  have e1:(m.map Prod.fst)[j]? =some k:=by rw[List.getElem?_map,hj];simp[hz]
  have e2:(m.map Prod.fst)[i]? =some k:=by rw[List.getElem?_map,hi];rfl
  exact(List.getElem?_inj (by simpa using hj') h.nd).1 (e1.trans e2.symm)
 have hb:((es.modify i fun e=>{e with key:=ke k,val}).toList.map MapEntry.born)=es.toList.map MapEntry.born:=by
  apply List.ext_getElem?;intro j
  simp only[List.getElem?_map,Array.getElem?_toList,Array.getElem?_modify]
  split
  ·cases es[j]? <;>rfl
  ·rfl
 refine⟨by simp[eR,hmem,h.len],fun j e z he hz=>?_,?_,by rw[hb];exact h.born,fun e he=>?_⟩
 ·simp only[eR,hmem,if_true,List.getElem?_map]at hz
  rw[Array.getElem?_modify]at he
  cases hm:m[j]? with
  |none=>rw[hm]at hz;simp at hz
  |some z0=>
   rw[hm]at hz
   simp only[Option.map_some,Option.some.injEq]at hz
   cases Od:es[j]? with
   |none=>rw[Od]at he;split at he<;>simp at he
   |some e0=>
    rw[Od]at he
    by_cases ek:z0.1=k
    ·have:=Kj j z0 hm ek
     subst this
     rw[if_pos ek]at hz;subst hz
     simp only[if_true,Option.map_some,Option.some.injEq]at he
     subst he;exact⟨rfl,hv⟩
    ·rw[if_neg ek]at hz;subst hz
     rw[if_neg (fun e=>by subst e;rw[hi]at hm;cases hm;exact ek rfl)]at he
     simp only[Option.some.injEq]at he
     subst he;exact h.key j _ _ Od hm
 ·have:(eR m k x).map Prod.fst=m.map Prod.fst:=by
   simp only[eR,hmem,if_true,List.map_map]
   apply List.map_congr_left
   intro z _
   simp only[Function.comp]
   split
   ·rename_i hz;exact hz.symm
   ·rfl
  rw[this];exact h.nd
 ·have:e.born∈(es.modify i fun e=>{e with key:=ke k,val}).toList.map MapEntry.born:=List.mem_map_of_mem he
  rw[hb]at this
  obtain⟨e0,h1,h2⟩:=List.mem_map.1 this
  rw[←h2];exact h.lt e0 h1
theorem aE.more(h:aE ke vr es ck m){k:κ}{x:β}{val:Value}(hk:k∉m.map Prod.fst)(hv:vr val x):aE ke vr (es.push {key:=ke k,val,born:=ck}) (ck+1) (eR m k x):=by
 have hs:eR m k x=m++[(k,x)]:=by unfold eR;rw[if_neg hk]
 rw[hs]
 refine⟨by simp[h.len],fun j e z he hz=>?_,?_,?_,fun e he=>?_⟩
 ·by_cases hj:j<m.length
  ·rw[List.getElem?_append_left hj]at hz
   rw[Array.getElem?_push,if_neg (by rw[h.len];omega)]at he
   exact h.key j _ _ he hz
  ·have Ml:=(List.getElem?_eq_some_iff.1 hz).1
   simp only[List.length_append,List.length_cons,List.length_nil]at Ml
   have:j=m.length:=by omega
   subst this
   rw[List.getElem?_append_right (Nat.le_refl _)]at hz
   simp at hz;subst hz
   rw[Array.getElem?_push,if_pos h.len.symm]at he
   simp at he;subst he
   exact⟨rfl,hv⟩
 ·rw[List.map_append,List.nodup_append]
  refine⟨h.nd,by simp,fun a ha b hb=>?_⟩
  simp at hb;subst hb;rintro rfl;exact hk ha
 ·rw[Array.toList_push,List.map_append,List.nodup_append]
  refine⟨h.born,by simp,fun a ha b hb=>?_⟩
  simp at hb;subst hb
  obtain⟨e,he,rfl⟩:=List.mem_map.1 ha
  have:=h.lt e he;omega
 ·rw[Array.toList_push,List.mem_append]at he
  rcases he with he|he
  ·have:=h.lt e he;omega
  ·simp at he;subst he;simp
variable {H:Hp} {b:Nat}
theorem aE.hit{kd:TypeDesc}{zero:Value}{ok:Bool}{k:κ}{x:β}{K:Value→Prop}(hk:∀a b,Instr.sameNow kd (ke a) (ke b)=some (decide (a=b)))(h:aE ke vr es ck m)(hm:(b,Obj.map es ck)∈H)(hx:aJ m k=some x)
 (h1:∀v,vr v x→K (cond ok (.tuple #[v,.bool true]) v)):dW kd zero ok H (.map (some b)) (ke k) K:=by
 rcases h.findNow hk k with⟨i,y,e,g1,g2,g3,g4⟩|⟨g1,g2⟩
 ·have:aJ m k=some y:=(cR h.nd).2 (List.mem_of_getElem? g2)
  rw[hx]at this;cases this
  exact⟨es,_,.inr ⟨b,ck,rfl,hm⟩,g4,h1 _ g3⟩
 ·rw[gw.2 g1]at hx;cases hx
theorem aE.sN{kd:TypeDesc}{zero:Value}{ok:Bool}{k:κ}{K:Value→Prop}(hk:∀a b,Instr.sameNow kd (ke a) (ke b)=some (decide (a=b)))(h:aE ke vr es ck m)(hm:(b,Obj.map es ck)∈H)(hx:aJ m k=none)
 (h1:K (cond ok (.tuple #[zero,.bool false]) zero)):dW kd zero ok H (.map (some b)) (ke k) K:=by
 rcases h.findNow hk k with⟨i,y,e,g1,g2,g3,g4⟩|⟨g1,g2⟩
 ·exact absurd (List.mem_map.2 ⟨_,List.mem_of_getElem? g2,rfl⟩) (gw.1 hx)
 ·exact⟨es,_,.inr ⟨b,ck,rfl,hm⟩,g2,h1⟩
theorem aE.bc{kd:TypeDesc}{k:κ}{x:β}{val:Value}{K:Hp→Prop}(hk:∀a b,Instr.sameNow kd (ke a) (ke b)=some (decide (a=b)))(hb:∀a,Instr.sameBits 10000 (ke a) (ke a)=true)(h:aE ke vr es ck m)(hv:vr val x)
 (h1:∀es' cg,aE ke vr es' cg (eR m k x)→∃H',ct b (.map es ck) (.map es' cg) H H'∧K H'):aY kd H (.map (some b)) (ke k) val K:=by
 rcases h.findNow hk k with⟨i,y,e,g1,g2,g3,g4⟩|⟨g1,g2⟩
 ·refine⟨b,es,ck,_,rfl,g4,fun e' he'=>?_,by rw[h.len];exact(List.getElem?_eq_some_iff.1 g2).1,h1 _ _ (h.put g2 hv)⟩
  rw[(h.key i e' _ he' g2).1];exact hb k
 ·exact⟨b,es,ck,_,rfl,g2,h1 _ _ (h.more g1 hv)⟩
theorem aE.Cz{P:Program}{kt:TypeId}{zero:Value}{ok:Bool}{k:κ}{x:β}{K:Value→Prop}(hk:∀a b,xQ P kt (ke a) (ke b) (decide (a=b)))(hc:∀a,jR P kt (ke a))(h:aE ke vr es ck m)(hm:(b,Obj.map es ck)∈H)(hx:aJ m k=some x)
 (h1:∀v,vr v x→K (cond ok (.tuple #[v,.bool true]) v)):gG P kt zero ok H (.map (some b)) (ke k) K:=by
 rcases h.td hk k with⟨i,y,e,g1,g2,g3,g4⟩|⟨g1,g2⟩
 ·have:aJ m k=some y:=(cR h.nd).2 (List.mem_of_getElem? g2)
  rw[hx]at this;cases this
  exact⟨es,_,.inr ⟨b,ck,rfl,hm⟩,hc k,g4,h1 _ g3⟩
 ·rw[gw.2 g1]at hx;cases hx
theorem aE.sM{P:Program}{kt:TypeId}{zero:Value}{ok:Bool}{k:κ}{K:Value→Prop}(hk:∀a b,xQ P kt (ke a) (ke b) (decide (a=b)))(hc:∀a,jR P kt (ke a))(h:aE ke vr es ck m)(hm:(b,Obj.map es ck)∈H)(hx:aJ m k=none)
 (h1:K (cond ok (.tuple #[zero,.bool false]) zero)):gG P kt zero ok H (.map (some b)) (ke k) K:=by
 rcases h.td hk k with⟨i,y,e,g1,g2,g3,g4⟩|⟨g1,g2⟩
 ·exact absurd (List.mem_map.2 ⟨_,List.mem_of_getElem? g2,rfl⟩) (gw.1 hx)
 ·exact⟨es,_,.inr ⟨b,ck,rfl,hm⟩,hc k,g2,h1⟩
theorem aE.Es{P:Program}{kt:TypeId}{k:κ}{x:β}{val:Value}{K:Hp→Prop}(hk:∀a b,xQ P kt (ke a) (ke b) (decide (a=b)))(hc:∀a,jR P kt (ke a))(hb:∀a,Instr.sameBits 10000 (ke a) (ke a)=true)(h:aE ke vr es ck m)(hv:vr val x)
 (h1:∀es' cg,aE ke vr es' cg (eR m k x)→∃H',ct b (.map es ck) (.map es' cg) H H'∧K H'):ig P kt H (.map (some b)) (ke k) val K:=by
 rcases h.td hk k with⟨i,y,e,g1,g2,g3,g4⟩|⟨g1,g2⟩
 ·refine⟨b,es,ck,_,rfl,hc k,g4,fun e' he'=>?_,by rw[h.len];exact(List.getElem?_eq_some_iff.1 g2).1,h1 _ _ (h.put g2 hv)⟩
  rw[(h.key i e' _ he' g2).1];exact hb k
 ·exact⟨b,es,ck,_,rfl,hc k,g2,h1 _ _ (h.more g1 hv)⟩
theorem aE.BZ(h:aE ke vr es ck m)(hm:(b,Obj.map es ck)∈H){K:Value→Prop}(hk:K (.int .i64 m.length)):rT H (.map (some b)) K:=⟨_,rfl,.inr ⟨b,es,ck,rfl,hm,by rw[h.len];exact hk⟩⟩
def cJ(es:Array MapEntry)(m:List (κ×β))(seen:Array Nat):List (κ×β):=((es.toList.zip m).filter fun p=> !seen.contains p.1.born).map Prod.snd
omit [DecidableEq κ] in
theorem uh(h:aE ke vr es ck m):cJ es m #[]=m:=by
 unfold cJ
 rw[List.filter_eq_self.2 (by simp),←List.unzip_snd,List.unzip_zip]
 simpa using h.len
omit [DecidableEq κ] in
theorem r7(h:aE ke vr es ck m){seen:Array Nat}{i:Nat}{e:MapEntry}{x:κ×β}(he:es[i]? =some e)(hx:m[i]? =some x)(hs:e.born∉seen):(cJ es m seen).Perm (x::cJ es m (seen.push e.born)):=by
 unfold cJ
 have hz:(es.toList.zip m)[i]? =some (e,x):=by rw[List.getElem?_zip_eq_some];exact⟨by simpa using he,hx⟩
 obtain⟨A,C,Qe,hlen⟩:∃A C,es.toList.zip m=A++(e,x)::C∧A.length=i:=by
  obtain⟨hlt,hg⟩:=List.getElem?_eq_some_iff.1 hz
  exact⟨(es.toList.zip m).take i,(es.toList.zip m).drop (i+1),by rw[←hg,List.getElem_cons_drop,List.take_append_drop],by simp only[List.length_take];omega⟩
 have N8:(es.toList.zip m).map (fun p=>p.1.born)=es.toList.map MapEntry.born:=by
  have:(es.toList.zip m).map Prod.fst=es.toList:=by rw[←List.unzip_fst,List.unzip_zip];simpa using h.len
  rw[show(fun p:MapEntry×(κ×β)=>p.1.born)=MapEntry.born∘Prod.fst from rfl,←List.map_map,this]
 have fI:=h.born
 rw[←N8,Qe,List.map_append,List.map_cons]at fI
 have Kz:=List.perm_middle.nodup_iff.1 fI
 rw[List.nodup_cons,←List.map_append]at Kz
 have hne:∀p∈A++C,p.1.born≠e.born:=fun p hp e0=>Kz.1 (List.mem_map.2 ⟨p,hp,e0⟩)
 have G8:∀L:List (MapEntry×(κ×β)),(∀p∈L,p.1.born≠e.born)→(L.filter fun p=> !(seen.push e.born).contains p.1.born)=L.filter fun p=> !seen.contains p.1.born:=fun L hL=>by
  apply List.filter_congr
  intro p hp
  have:=hL p hp
  simp[Array.mem_push,this]
 rw[Qe,List.filter_append,List.filter_append,List.filter_cons,List.filter_cons]
 rw[if_pos (by simpa using hs),if_neg (by simp),G8 A fun p hp=>hne p (List.mem_append_left _ hp),G8 C fun p hp=>hne p (List.mem_append_right _ hp)]
 rw[List.map_append,List.map_append,List.map_cons]
 exact List.perm_middle
omit [DecidableEq κ] in
theorem aE.next{bi bm:Nat}{seen:Array Nat}{K:Value→Hp→Prop}(h:aE ke vr es ck m)(hm:(bm,Obj.map es ck)∈H)(hi:(bi,Obj.mapIter (some bm) ck seen ck)∈H)
 (h1:∀e x seen',e∈es.toList→e.key=ke x.1→vr e.val x.2→(cJ es m seen).Perm (x::cJ es m seen')→seen'.back?=some e.born→es.find? (·.born==e.born)=some e→
   ∃H',ct bi (.mapIter (some bm) ck seen ck) (.mapIter (some bm) ck seen' ck) H H'∧K (.tuple #[.bool true,e.key,e.val]) H')
 (h2:cJ es m seen=[]→K (.tuple #[.bool false]) H):LR H (.pointer (some ⟨bi,0,none⟩)) K:=by
 refine⟨bi,some bm,ck,seen,ck,rfl,hi,es,ck,hm,fun e he=>⟨h.lt e he,h.lt e he⟩,fun e he hs=>?_,fun aD=>h2 ?_⟩
 ·obtain⟨i,hi',rfl⟩:=List.mem_iff_getElem.1 he
  have zV:i<m.length:=by rw[←h.len];simpa using hi'
  have g1:es[i]? =some es.toList[i]:=by rw[←Array.getElem?_toList];exact List.getElem?_eq_getElem hi'
  have g2:m[i]? =some m[i]:=List.getElem?_eq_getElem zV
  obtain⟨k1,k2⟩:=h.key i _ _ g1 g2
  refine h1 _ m[i] _ he k1 k2 (r7 h g1 g2 hs) (by simp) ?_
  rw[←Array.find?_toList]
  have fI:=h.born
  rw[List.find?_eq_some_iff_append]
  refine⟨by simp,es.toList.take i,es.toList.drop (i+1),by rw[List.getElem_cons_drop,List.take_append_drop],fun a ha=>?_⟩
  simp only[Bool.not_eq_true',beq_eq_false_iff_ne,ne_eq]
  intro e0
  obtain⟨j,hj,rfl⟩:=List.mem_iff_getElem.1 ha
  simp only[List.length_take]at hj
  rw[List.getElem_take]at e0
  have:=(List.getElem_inj (by simpa using h.born) (xs:=es.toList.map MapEntry.born) (i:=j) (j:=i) (h₀:=by rw[List.length_map];omega) (h₁:=by rw[List.length_map];exact hi')).1 (by simpa using e0)
  omega
 ·unfold cJ
  rw[List.filter_eq_nil_iff.2,List.map_nil]
  intro p hp
  have:=aD p.1 (List.of_mem_zip hp).1
  simpa using this
end
end Go.Sx
namespace eH
abbrev Fs:=List (List Nat)
def add(l:Fs)(t:List Nat):Fs:=if t∈l then l else l++[t]
def Be(L:Fs):Fs:=L.foldl add []
def given(n:Nat)(l:Fs)(v:Nat):Fs:=l.foldl (fun acc t=>add (add acc (MI n t v false)) (MI n t v true)) []
def nodes(n:Nat)(l:Fs)(v:Nat):Fs:=l.filter fun t=>dep n t v
def st(n:Nat)(L:Fs)(A:Nat):Nat→Fs
 |0=>Be L
 |k+1=>if A.testBit k then given n (st n L A k) k else st n L A k
def lvl(n:Nat)(L:Fs)(A v:Nat):Nat:=(nodes n (st n L A n) v).length
theorem Gi(A u:Nat):(A>>>u&&&1=1)↔A.testBit u=true:=by
 rw[vi,Nat.testBit_shiftRight,Nat.add_zero];cases A.testBit u<;>simp
theorem yR(A u:Nat):((A>>>u)%2=1)↔A.testBit u=true:=by
 rw[←Gi,Nat.and_one_is_mod]
end eH
namespace Go.Sx
open Go
section
variable {P:Program} {H:Hp}
theorem ak.int{t e:Nat}{kd:IntKind}{x:Int}{K:Value→Hp→Prop}(h1:P.underlying t=some (.slice e))(h2:cC P e=some 1)(h3:ed P e=some (.int kd 0))
 (h:∀b,K (.slice (some ⟨b,0,none⟩) 1 1) ((b,.cells (au kd [x]) e (0,0))::H)):ak P t 1 [(0,.int kd x)] H K:=by
 refine⟨au kd [x],e,1,_,h1,h2,h3,by decide,?_,fun b _=>h b⟩
 have e1:Array.range 1=#[0]:=rfl
 simp[Instr.fill,Value.cells,au,e1]
theorem ak.none{t e k:Nat}{z:Value}{K:Value→Hp→Prop}(h1:P.underlying t=some (.slice e))(h2:cC P e=some k)(h3:ed P e=some z)
 (h:∀b,K (.slice (some ⟨b,0,none⟩) 0 0) ((b,.cells #[] e (0,0))::H)):ak P t 0 [] H K:=by
 refine⟨_,e,k,z,h1,h2,h3,by simp,rfl,fun b _=>?_⟩
 have:((Array.range (0*k)).map fun i=>z.cells[i%z.cells.size]!)=#[]:=by simp
 rw[this];exact h b
end
end Go.Sx
namespace Go.Sx
open Go
section
variable {P:Program} {g:Gh} {H:Hp}
theorem aI.apps{elem k bytes:Nat}{zero:Value}{v:Value}{rs:List (List Value)}{C A B:Hp}(h:aI elem k v rs C){xa:Option Addr}{xc:Nat}{r2:List (List Value)}
 (hx:Cells (A++(C++B)) xa (r2.length*k) (rows r2))(hr:∀r∈r2,r.length=k)(h1:∀r∈r2,∀u∈r,u.oneCell'=true)(hz:∃z:List Value,zero.cells=z.toArray∧z.length=k)
 (hb:(rs.length+r2.length)*bytes≤140737488355328)(cc:rs.length+r2.length≤9223372036854775807){K:Value→Hp→Prop}
 (hk:∀v' C',aI elem k v' (rs++r2) C'→K v' (A++(C'++B))):App P elem k bytes zero (A++(C++B)) v (.slice xa r2.length xc) K:=by
 obtain⟨z,Kh,Ft⟩:=hz
 have hnone:∀u∈(rows r2).toList,u.oneCell'=true:=by
  intro u hu
  simp only[rows,List.mem_flatten]at hu
  obtain⟨r,h2,h3⟩:=hu
  exact h1 r h2 u h3
 rcases h with⟨rfl,rfl,rfl⟩|⟨b,ax,rfl,rfl,aD⟩
 ·refine⟨none,0,0,xa,r2.length,xc,#[],rows r2,rfl,rfl,rfl,hx,bf hr,by simp,hnone,fun h=>?_,fun _=>⟨by simpa using hb,by simpa using cc,fun dy hn b Oi=>?_⟩⟩
  ·have:r2=[]:=List.eq_nil_of_length_eq_zero (by omega)
   subst this
   exact hk _ [] (.inl ⟨rfl,rfl,rfl⟩)
  ·rw[show(#[]:Array Value)++rows r2++Builtin.zeroCells zero.cells (dy-(0+r2.length))=rows ([]++r2++List.replicate (dy-r2.length) z)by rw[Kh,kS z Ft];simp only[Nat.zero_add,Array.empty_append,List.nil_append];rw[cy]]
   refine⟨_,aR.GD [(b,_)] A B,hk _ [(b,_)] (.inr ⟨b,List.replicate (dy-r2.length) z,?_,rfl,?_⟩)⟩
   ·simp;omega
   ·intro x hx
    rcases List.mem_append.1 hx with hx|hx
    ·exact hr x hx
    ·rw[List.eq_of_mem_replicate hx,Ft]
 ·have hsz:=bf aD
  have jW:∀x∈rs,x.length=k:=fun x hx=>aD x (by simp[hx])
  have hold:rows rs=(rows (rs++ax)).extract 0 (0+rs.length*k):=by
   rw[←cy]
   apply Array.ext'
   have:=bf jW
   have h2:(rows rs).toList.length=rs.length*k:=by rw[Array.length_toList];exact this
   rw[Array.toList_extract,Array.toList_append,List.extract_eq_take_drop,List.drop_zero,Nat.zero_add,Nat.sub_zero,←h2,List.take_left]
  refine⟨some ⟨b,0,none⟩,rs.length,rs.length+ax.length,xa,r2.length,xc,rows rs,rows r2,rfl,rfl,.inr ⟨rfl,_,elem,(0,0),by simp,?_,hold⟩,hx,bf hr,bf jW,hnone,fun hfit=>?_,fun hgrow=>⟨hb,by omega,fun dy hn b' Oi=>?_⟩⟩
  ·rw[hsz];simp only[List.length_append,Nat.zero_add];exact Nat.mul_le_mul_right _ (by omega)
  ·obtain⟨j1,j2,rfl,hj⟩:∃j1 j2,ax=j1++j2∧j1.length=r2.length:=⟨ax.take r2.length,ax.drop r2.length,(List.take_append_drop _ _).symm,by rw[List.length_take];omega⟩
   have KY:∀x∈j1,x.length=k:=fun x hx=>aD x (by simp[hx])
   refine⟨_,elem,_,rfl,?_,((ct.head _).append B).bL A,hk _ [(b,_)] (.inr ⟨b,j2,?_,?_,?_⟩)⟩
   ·rw[hsz,List.length_append,List.length_append,hj,Nat.add_mul,Nat.add_mul]
    show 0+rs.length*k+r2.length*k≤_
    omega
   ·simp;omega
   ·have e:(⟨b,0,none⟩:Addr).off+rs.length*k=rs.length*k:=by simp
    have l1:=bW rs jW
    have l2:=bW j1 KY
    have l3:=bW r2 hr
    have e2:fE (rows (rs++(j1++j2))) (rs.length*k) (rows r2).toList=rows (rs++r2++j2):=by
     unfold rows
     rw[List.flatten_append,List.flatten_append,List.toList_toArray,ju _ _ _ (by rw[List.length_append,List.length_append,l1,l2,l3,hj];omega)]
     congr 1
     rw[List.flatten_append,List.flatten_append,←l1,List.take_left,l3,←hj,←l2,List.drop_append,←List.append_assoc]
     simp[List.drop_append]
    rw[e,e2]
   ·intro x hx
    simp only[List.append_assoc,List.mem_append]at hx
    rcases hx with hx|hx|hx
    ·exact jW x hx
    ·exact hr x hx
    ·exact aD x (by simp[hx])
  ·refine⟨A++([(b',_)]++B),?_,hk _ [(b',_)] (.inr ⟨b',List.replicate (dy-(rs.length+r2.length)) z,?_,rfl,?_⟩)⟩
   ·rw[Kh,kS z Ft,cy,cy]
    exact fun g w h=>(aR.JV [[_],A,[_],B] [[_],A,[_],B] ((List.perm_append_comm (l₁:=[_,A]) (l₂:=[_])).append_right [B]|>.trans (.cons _ (.swap _ _ _))) g w h).tail
   ·simp;omega
   ·intro x hx
    rcases List.mem_append.1 hx with hx|hx
    ·rcases List.mem_append.1 hx with hx|hx
     ·exact jW x hx
     ·exact hr x hx
    ·rw[List.eq_of_mem_replicate hx,Ft]
def aN(T:TypeId)(kd:IntKind)(v:Value)(l:List Int)(C:Hp):Prop:=aI T 1 v (l.map fun n=>[Value.int kd n]) C
theorem aN.nil{T:TypeId}{kd:IntKind}:aN T kd (.slice none 0 0) [] []:=aI.nil _ _
theorem aN.cP{T:TypeId}{kd:IntKind}{v:Value}{l:List Int}{C:Hp}(h:aN T kd v l C){K:Value→Prop}(hk:K (.int .i64 l.length)):aM v K:=aI.cP h (by simpa using hk)
theorem aN.ints{T:TypeId}{kd:IntKind}{v:Value}{l:List Int}{C:Hp}(h:aN T kd v l C):fR kd C v l:=Sl.mT h (by decide)
theorem aN.app{T:TypeId}{kd:IntKind}{v:Value}{l:List Int}{C A B:Hp}{bytes:Nat}(h:aN T kd v l C){xb xc:Nat}{x:Int}{xT:TypeId}{fz:Nat×Nat}(hx:(xb,Obj.cells (au kd [x]) xT fz)∈A++(C++B))
 (hb:(l.length+1)*bytes≤140737488355328)(hm:l.length+1≤9223372036854775807){K:Value→Hp→Prop}(hk:∀v' C',aN T kd v' (l++[x]) C'→K v' (A++(C'++B))):App P T 1 bytes (.int kd 0) (A++(C++B)) v (.slice (some ⟨xb,0,none⟩) 1 xc) K:=
 aI.DN (r:=[.int kd x]) h hx rfl (by simp[Value.oneCell']) ⟨[.int kd 0],rfl,rfl⟩ (by simpa using hb) (by simpa using hm) fun v' C' ho=>hk v' C' (by unfold aN;simpa using ho)
theorem aN.apps{T:TypeId}{kd:IntKind}{v x:Value}{l l2:List Int}{C A B:Hp}{bytes:Nat}(h:aN T kd v l C)(hx:fR kd (A++(C++B)) x l2)
 (hb:(l.length+l2.length)*bytes≤140737488355328)(hm:l.length+l2.length≤9223372036854775807){K:Value→Hp→Prop}(hk:∀v' C',aN T kd v' (l++l2) C'→K v' (A++(C'++B))):App P T 1 bytes (.int kd 0) (A++(C++B)) v x K:=by
 obtain⟨a,cap,rfl,hc⟩:=Sl.cells hx
 exact aI.apps h hc (by simp) (by simp[Value.oneCell']) ⟨[.int kd 0],rfl,rfl⟩ (by simpa using hb) (by simpa using hm) fun v' C' ho=>hk v' C' (by unfold aN;rw[List.map_append];exact ho)
end
end Go.Sx
namespace Go.Sx
open Go
section
variable {P:Program}
theorem tA{e:TypeId}{i:TypeInfo}(hi:P.info? e=some i)(hs:i.size=1):P.cellsOf e=1:=by simp[Program.cellsOf,hi,hs]
theorem k7{e:TypeId}{q:IntKind}(hu:P.underlying e=some (.int q)){l:List Int}{j:Nat}{x:Int}(h:l[j]? =some x)(w:World):(part e (au q l) j).run P w=.ok (.int q x) w:=by
 simp[part,isAgg,run_underlying hu,au,h]
theorem lP{e:TypeId}{q:IntKind}(hu:P.underlying e=some (.int q))(hc:P.cellsOf e=1)(d:Nat)(l l':List Int)(w:World):∀is:List Nat,(∀i∈is,i<l.length∧i<l'.length)→
  (Op.eqItems (d+1) e (P.cellsOf e) (au q l) (au q l') is).run P w=.ok (is.all fun i=>l[i]? ==l'[i]?) w
 | [],_=>by simp[Op.eqItems]
 |i::is,h=>by
  obtain⟨h1,h2⟩:=h i (by simp)
  have g1:l[i]? =some l[i]:=List.getElem?_eq_getElem h1
  have g2:l'[i]? =some l'[i]:=List.getElem?_eq_getElem h2
  have p1:=k7 (P:=P) hu g1 w
  have p2:=k7 (P:=P) hu g2 w
  have p3:(Op.equalIn (d+1) e (.int q l[i]) (.int q l'[i])).run P w=.ok (l[i]==l'[i]) w:=by
   simp only[Op.equalIn,Sem.run_bind,run_underlying hu,Result.andThen_ok,if_true,Sem.run_pure]
  have ih:=lP hu hc d l l' w is fun j hj=>h j (by simp[hj])
  simp only[Op.eqItems,hc,Nat.mul_one,Sem.run_bind,p1,p2,p3,Result.andThen_ok]at ih⊢
  rw[List.all_cons,g1,g2]
  cases hb:(l[i]==l'[i])
  ·simp[hb]
  ·simp[hb,ih]
theorem xQ.array{t e:TypeId}{q:IntKind}{n:Nat}(ht:P.underlying t=some (.array n e))(hu:P.underlying e=some (.int q))(hz:cC P e=some 1)(l l':List Int)(h1:l.length=n)(h2:l'.length=n):
  xQ P t (.agg (au q l)) (.agg (au q l')) (decide (l=l')):=by
 obtain⟨i,hi,hs⟩:=aW hz
 have hc:=tA hi hs
 intro w
 show(Op.equalIn (9998+1+1) t _ _).run P w=_
 rw[run_equalIn_array w (9998+1) _ _ ht hi,lP hu hc 9998 l l' w _ (fun j hj=>by have:=List.mem_range.1 hj;omega)]
 congr 1
 rw[Bool.eq_iff_iff]
 simp only[List.all_eq_true,List.mem_range,decide_eq_true_eq,beq_iff_eq]
 constructor
 ·intro h
  apply List.ext_getElem?
  intro j
  by_cases hj:j<n
  ·exact h j hj
  ·rw[List.getElem?_eq_none (by omega),List.getElem?_eq_none (by omega)]
 ·rintro rfl j _;rfl
theorem jR.array{t e:TypeId}{q:IntKind}{n:Nat}(ht:P.underlying t=some (.array n e))(hu:P.underlying e=some (.int q))(hz:cC P e=some 1)(l:List Int)(h1:l.length=n):jR P t (.agg (au q l)):=by
 obtain⟨i,hi,hs⟩:=aW hz
 intro b w
 have gen:∀d,(Instr.checkKey b (d+1+1) t (.agg (au q l))).run P w=.ok () w:=by
  intro d
  have p2:∀x:Int,(Instr.checkKey b (d+1) e (.int q x)).run P w=.ok () w:=fun x=>by
   simp only[Instr.checkKey,Sem.run_bind,run_underlying hu,Result.andThen_ok,Sem.run_pure]
  unfold Instr.checkKey
  simp only[Sem.run_bind,run_underlying ht,Result.andThen_ok]
  simp only[Std.Legacy.Range.forIn_eq_forIn_range',Std.Legacy.Range.size,Nat.sub_zero,Nat.add_one_sub_one,Nat.div_one]
  have key:∀is:List Nat,(∀j∈is,j<l.length)→(forIn is PUnit.unit fun j (_:PUnit)=>(do
     Instr.checkKey b (d+1) e (←part e (au q l) (j*(←sizeOf e)))
     pure (ForInStep.yield PUnit.unit):Sem (ForInStep PUnit))).run P w=.ok PUnit.unit w:=by
   intro is
   induction is with
   |nil=>intro _;simp
   |cons j is ih=>
    intro h
    have p1:=k7 (P:=P) hu (List.getElem?_eq_getElem (h j (by simp))) w
    simp only[List.forIn_cons,Sem.run_bind,run_sizeOf hi,Result.andThen_ok,hs,Nat.mul_one,p1,p2,Sem.run_pure]
    exact ih fun k hk=>h k (by simp[hk])
  have:=key (List.range' 0 n) (fun j hj=>by have:=List.mem_range'_1.1 hj;omega)
  rw[this];rfl
 exact gen 9998
end
end Go.Sx
namespace Go.Sx
open Go
section
variable {P:Program} {g:Gh} {H:Hp}
theorem fx.struct{o:Oper}{ρ:Operand→Value}{k:Value→Prop}{neq:Bool}{t yt:TypeId}{x y:Operand}{xs ys:Array Value}{b:Bool}(ho:o.op=.binOp (cond neq .neq .eql) t x y yt)(hx:ρ x=.agg xs)(hy:ρ y=.agg ys)
 (hg:P.eqGuardType P.depth t=false)(hu:P.underlying t=some (.struct (P.fieldsOf t)))(hp:P.stoodInHeld t=false)
 (he:∀w,(Op.eqFields 9999 xs ys (P.fieldsOf t).toList).run P w=.ok b w)(hk:k (.bool (cond neq (!b) b))):fx P g o ρ H k:=by
 obtain⟨dst,op,type,pos,after,guard⟩:=o
 simp only at ho
 subst ho
 obtain⟨v,h1,h2⟩:=Reads.mk (P:=P) (g:=g) (H:=H) (o:=⟨dst,.binOp (cond neq .neq .eql) t x y yt,type,pos,after,guard⟩) (ρ:=ρ) (k:=k) (s:=do eqGuard (cond neq .neq .eql) t x y (ρ x) (ρ y);binOp (cond neq .neq .eql) t (ρ x) (ρ y)) rfl
  ⟨.bool (cond neq (!b) b),hk,fun w _=>by
   rw[hx,hy]
   simp only[Sem.run_bind,run_eqGuard_agg w _ t x y xs ys hg,Result.andThen_ok]
   cases neq
   ·simp only[cond_false];rw[run_eql_struct,show(10000:Nat)=9999+1 from rfl,run_equalIn_struct w 9999 t xs ys hu hp,he];rfl
   ·simp only[cond_true];rw[run_neq_struct,show(10000:Nat)=9999+1 from rfl,run_equalIn_struct w 9999 t xs ys hu hp,he];rfl⟩
 exact⟨v,h2,h1⟩
end
end Go.Sx
