import Derived.WalkKit
import Derived.Still
import Derived.KernelRfl
import Derived.Deep.Quiet
import Derived.OrdersHeld
import Derived.ProofKit
import Derived.OpenShut
import Derived.Below
set_option linter.unusedVariables false
set_option linter.unusedSimpArgs false
set_option linter.unusedSectionVars false
namespace Go.Sx
open Go
abbrev Hp:=List (Nat×Obj)
structure Gh where
 w:World
 fr:Hp
def Gh.add(g:Gh)(F:Hp):Gh:=⟨g.w,F++g.fr⟩
structure Own(g:Gh)(H:Hp)(w:World):Prop where
 os:w.os=g.w.os
 out:w.output=g.w.output
 tape:w.tape=g.w.tape
 nd:((H++g.fr).map Prod.fst).Nodup
 sC:∀x,x∈H++g.fr→w.heap[x.1]? =some x.2
theorem Own.has{g:Gh}{H:Hp}{w:World}(h:Own g H w)(x:Nat×Obj)(hx:x∈H):w.heap[x.1]? =some x.2:=h.sC x (List.mem_append_left _ hx)
theorem Own.perm{g:Gh}{H H':Hp}{w:World}(h:Own g H w)(p:H.Perm H'):Own g H' w:=
 ⟨h.os,h.out,h.tape,((p.append_right _).map _).nodup_iff.1 h.nd,fun x hx=>h.sC x ((p.append_right _).mem_iff.2 hx)⟩
theorem Own.right{g:Gh}{A B:Hp}{w:World}(h:Own g (A++B) w):Own g B w:=
 ⟨h.os,h.out,h.tape,by have:=h.nd;rw[List.append_assoc,List.map_append]at this;exact(List.nodup_append.1 this).2.1,fun x hx=>h.sC x (by rw[List.append_assoc];exact List.mem_append_right _ hx)⟩
theorem Own.left{g:Gh}{A B:Hp}{w:World}(h:Own g (A++B) w):Own g A w:=Own.right (A:=B) (h.perm List.perm_append_comm)
theorem Own.tail{g:Gh}{x:Nat×Obj}{B:Hp}{w:World}(h:Own g (x::B) w):Own g B w:=Own.right (A:=[x]) h
theorem Own.dZ{g:Gh}{A F:Hp}{w:World}:Own g (A++F) w↔Own (g.add F) A w:=by
 constructor
 ·intro h;exact⟨h.os,h.out,h.tape,by have:=h.nd;rw[List.append_assoc]at this;exact this,fun x hx=>h.sC x (by rw[List.append_assoc];exact hx)⟩
 ·intro h;exact⟨h.os,h.out,h.tape,by have:=h.nd;rw[List.append_assoc];exact this,fun x hx=>h.sC x (by rw[List.append_assoc]at hx;exact hx)⟩
def aU(H H':Hp):Prop:=∀g w,Own g H w→Own g H' w
theorem aU.refl(H:Hp):aU H H:=fun _ _ h=>h
theorem aU.trans{A B C:Hp}(h:aU A B)(h':aU B C):aU A C:=fun g w x=>h' g w (h g w x)
theorem aU.perm{A B:Hp}(p:A.Perm B):aU A B:=fun _ _ h=>h.perm p
theorem aU.right{A B:Hp}:aU (A++B) B:=fun _ _ h=>h.right
theorem aU.left{A B:Hp}:aU (A++B) A:=fun _ _ h=>h.left
theorem aU.tail{x:Nat×Obj}{B:Hp}:aU (x::B) B:=fun _ _ h=>h.tail
theorem aU.frame{A B:Hp}(h:aU A B)(F:Hp):aU (A++F) (B++F):=fun _ _ o=>Own.dZ.2 (h _ _ (Own.dZ.1 o))
theorem aU.dj{A B:Hp}(h:aU A B)(F:Hp):aU (F++A) (F++B):=(aU.perm List.perm_append_comm).trans ((h.frame F).trans (.perm List.perm_append_comm))
inductive dH(b:Nat)(o o':Obj):Hp→Hp→Prop
 |head (R:Hp):dH b o o' ((b,o)::R) ((b,o')::R)
 |tail {x:Nat×Obj} {R R':Hp} (h:dH b o o' R R'):dH b o o' (x::R) (x::R')
theorem dH.mem{b:Nat}{o o':Obj}{H H':Hp}(h:dH b o o' H H'):(b,o)∈H:=by
 induction h with
 |head R=>simp
 |tail _ ih=>simp[ih]
theorem dH.keys{b:Nat}{o o':Obj}{H H':Hp}(h:dH b o o' H H'):H'.map Prod.fst=H.map Prod.fst:=by
 induction h with
 |head R=>simp
 |tail _ ih=>simp[ih]
theorem dH.D7{b:Nat}{o o':Obj}{H H':Hp}(h:dH b o o' H H')(nd:(H.map Prod.fst).Nodup):∀x∈H',x=(b,o')∨(x∈H∧x.1≠b):=by
 induction h with
 |head R=>
  intro x hx
  rcases List.mem_cons.1 hx with rfl|hx
  ·exact .inl rfl
  ·refine .inr ⟨by simp[hx],fun e=>?_⟩
   simp only[List.map_cons,List.nodup_cons]at nd
   exact nd.1 (e▸List.mem_map_of_mem hx)
 | @tail y R R' h ih=>
  intro x hx
  simp only[List.map_cons,List.nodup_cons]at nd
  rcases List.mem_cons.1 hx with rfl|hx
  ·refine .inr ⟨by simp,fun e=>?_⟩
   exact nd.1 (e▸List.mem_map_of_mem (f:=Prod.fst) h.mem)
  ·rcases ih nd.2 x hx with h1|h1
   ·exact .inl h1
   ·exact .inr ⟨by simp[h1.1],h1.2⟩
theorem dH.append{b:Nat}{o o':Obj}{C C':Hp}(h:dH b o o' C C')(B:Hp):dH b o o' (C++B) (C'++B):=by
 induction h with
 |head R=>exact .head _
 |tail _ ih=>exact .tail ih
theorem Own.bT{g:Gh}{H H':Hp}{w w':World}{b:Nat}{o o':Obj}(h:Own g H w)(u:dH b o o' H H')
 (hos:w'.os=w.os)(hout:w'.output=w.output)(Hw:w'.tape=w.tape)
 (hb:w'.heap[b]? =some o')(hr:∀c,c≠b→w'.heap[c]? =w.heap[c]?):Own g H' w':=
 ⟨hos.trans h.os,hout.trans h.out,Hw.trans h.tape,by rw[(u.append g.fr).keys];exact h.nd,fun x hx=>by
  rcases(u.append g.fr).D7 h.nd x hx with rfl|⟨h1,h2⟩
  ·exact hb
  ·rw[hr _ h2];exact h.sC x h1⟩
theorem Own.same{g:Gh}{H:Hp}{w w':World}(h:Own g H w)(hos:w'.os=w.os)(hout:w'.output=w.output)(Hw:w'.tape=w.tape)
 (hr:∀(c:Nat) (o:Obj),w.heap[c]? =some o→w'.heap[c]? =some o):Own g H w':=
 ⟨hos.trans h.os,hout.trans h.out,Hw.trans h.tape,h.nd,fun x hx=>hr _ _ (h.sC x hx)⟩
theorem Own.drew{g:Gh}{H:Hp}{w:World}(h:Own g H w):Own g H w.drew:=h.same rfl rfl rfl fun _ _ h=>h
theorem Own.tK{g:Gh}{H:Hp}{w:World}(h:Own g H w):Own g H {w with drawn:=w.drawn+1}:=h.drew
theorem Own.WQ{g:Gh}{H:Hp}{w:World}(h:Own g H w){x:Nat×Obj}(hx:x∈H++g.fr):x.1<w.heap.size:=by
 have:=h.sC x hx
 exact(Array.getElem?_eq_some_iff.1 this).1
theorem Own.lt{g:Gh}{H:Hp}{w:World}(h:Own g H w){x:Nat×Obj}(hx:x∈H):x.1<w.heap.size:=h.WQ (List.mem_append_left _ hx)
theorem Own.Is{g:Gh}{H:Hp}{w:World}(h:Own g H w):w.heap.size∉(H++g.fr).map Prod.fst:=by
 intro hm
 obtain⟨x,hx,e⟩:=List.mem_map.1 hm
 have:=h.WQ hx
 omega
theorem Own.fresh{g:Gh}{H:Hp}{w:World}(h:Own g H w):w.heap.size∉H.map Prod.fst:=fun hm=>h.Is (by rw[List.map_append];exact List.mem_append_left _ hm)
theorem Own.alloc{g:Gh}{H:Hp}{w:World}(h:Own g H w)(o:Obj):Own g ((w.heap.size,o)::H) (w.alloc o):=by
 refine⟨h.os,h.out,h.tape,?_,?_⟩
 ·rw[List.cons_append,List.map_cons,List.nodup_cons];exact⟨h.Is,h.nd⟩
 ·intro x hx
  rw[List.cons_append]at hx
  rcases List.mem_cons.1 hx with rfl|hx
  ·show(w.heap.push o)[w.heap.size]? =some o
   rw[Array.getElem?_push,if_pos rfl]
  ·have:=h.sC x hx
   have hl:=h.WQ hx
   show(w.heap.push o)[x.1]? =some x.2
   rw[Array.getElem?_push,if_neg (by omega)]
   exact this
theorem Own.cell{g:Gh}{H:Hp}{w:World}(h:Own g H w){b:Nat}{c:Array Value}{T:TypeId}{fz:Nat×Nat}(hm:(b,Obj.cells c T fz)∈H)(off:Nat):
  w.cell? ⟨b,off,none⟩=c[off]? :=by
 have:=h.has _ hm
 simp only[World.cell?]
 simp only at this
 rw[this]
 rfl
theorem Own.frozen{g:Gh}{H:Hp}{w:World}(h:Own g H w){b:Nat}{c:Array Value}{T:TypeId}(hm:(b,Obj.cells c T (0,0))∈H)(off:Nat)(sp:Option Nat):
  w.frozen? ⟨b,off,sp⟩=false:=by
 have:=h.has _ hm
 simp only at this
 simp[World.frozen?,this]
def gN(c:Array Value)(off:Nat):List Value→Array Value
 | []=>c
 |v::r=>gN (c.setIfInBounds off v) (off+1) r
theorem Own.setCell{g:Gh}{H:Hp}{w:World}(h:Own g H w){b:Nat}{c:Array Value}{T:TypeId}{fz:Nat×Nat}{H':Hp}(off:Nat)(v:Value)
 (u:dH b (.cells c T fz) (.cells (c.setIfInBounds off v) T fz) H H'):Own g H' (w.setCell ⟨b,off,none⟩ v):=by
 refine h.bT u rfl rfl rfl ?_ ?_
 ·have:=h.has _ u.mem
  simp only at this
  simp[World.setCell,Array.getElem?_modify,this]
 ·intro d hd
  simp only[World.setCell]
  rw[Array.getElem?_modify,if_neg (fun e=>hd (Eq.symm e))]
theorem dH.re{b:Nat}{o o':Obj}{H H':Hp}(u:dH b o o' H H')(o₁:Obj):∃H₁,dH b o o₁ H H₁∧dH b o₁ o' H₁ H':=by
 induction u with
 |head R=>exact⟨_,.head R,.head R⟩
 |tail _ ih=>obtain⟨H₁,u1,u2⟩:=ih;exact⟨_,.tail u1,.tail u2⟩
theorem eJ{P:Program}{g:Gh}{b:Nat}{T:TypeId}(off:Nat):∀(l:List Value) (i:Nat) (c:Array Value) (H H':Hp) (w:World),Own g H w→
  dH b (.cells c T (0,0)) (.cells (gN c (off+i) l) T (0,0)) H H'→(∀v∈l,v.oneCell'=true)→off+i+l.length≤c.size→
  ∃w',(storeCells ⟨b,off,none⟩ l i).run P w=.ok () w'∧Own g H' w'
 | [],i,c,H,H',w,h,u,_,_=>by
  refine⟨w,rfl,?_⟩
  exact h.bT u rfl rfl rfl (h.has _ u.mem) fun _ _=>rfl
 |v::r,i,c,H,H',w,h,u,h1,hs=>by
  obtain⟨H₁,u1,u2⟩:=u.re (.cells (c.setIfInBounds (off+i) v) T (0,0))
  have js:=h.setCell (off+i) v u1
  simp only[List.length_cons]at hs
  obtain⟨w',hr,ho⟩:=eJ (P:=P) off r (i+1) (c.setIfInBounds (off+i) v) H₁ H' _ js (by simpa[gN,Nat.add_assoc]using u2) (fun x hx=>h1 x (by simp[hx])) (by simp;omega)
  refine⟨w',?_,ho⟩
  have hc:w.cell? ⟨b,off+i,none⟩=some c[off+i]:=by
   rw[h.cell u.mem,Array.getElem?_eq_getElem]
  have hf:=h.frozen u.mem (off+i) none
  have ha:Addr.add ⟨b,off,none⟩ i=⟨b,off+i,none⟩:=Addr.add_lit _ _ _
  simp only[storeCells,Sem.run_bind,ha,run_store P w _ v .plain (h1 v (by simp)),hc,hf,Bool.false_eq_true,if_false,Result.andThen_ok,hr]
theorem ic{P:Program}{g:Gh}{H:Hp}{w:World}(h:Own g H w){b:Nat}{c:Array Value}{T:TypeId}{fz:Nat×Nat}(hm:(b,Obj.cells c T fz)∈H)
 (off n:Nat)(hs:off+n≤c.size):(loadCells ⟨b,off,none⟩ n).run P w=.ok (c.extract off (off+n)) w:=by
 have hl:((c.extract off (off+n)).toList).length=n:=by simp;omega
 have:=run_loadCells_list (P:=P) w ⟨b,off,none⟩ (c.extract off (off+n)).toList (fun j v hj=>by
  rw[Addr.add_lit,h.cell hm]
  have OY:j<n:=by
   have:=(List.getElem?_eq_some_iff.1 hj).1
   omega
  rw[Array.getElem?_toList,Array.getElem?_extract]at hj
  rw[if_pos (by omega)]at hj
  exact hj)
 rw[hl]at this
 exact this
end Go.Sx
namespace Go.Sx
open Go
abbrev Fr:=Nat→Value
def bT(fr:Fr)(d:Option Nat)(v:Value):Fr:=
 match d with
 |none=>fr
 |some d=>fun s=>cond (Nat.beq s d) v (fr s)
def ev(fr:Fr):Operand→Value
 | .tmp t=>fr t
 | .const v=>v
 | .global g=>.pointer (some ⟨g,0,none⟩)
 | .func f=>.func (.func f) #[] #[]
def dk(n:Nat):Option Nat→Bool
 |none=>true
 |some d=>Nat.blt d n
structure bV(ds:List Deferred)(n:Nat)(a:Act)(fr:Fr):Prop where
 defers:a.defers=ds
 size:a.tmps.size=n
 get:∀s,a.tmps.getD s undef=fr s
theorem bV.eval{ds:List Deferred}{n:Nat}{a:Act}{fr:Fr}(h:bV ds n a fr):a.eval=ev fr:=by
 funext x
 cases x<;>simp only[Act.eval,ev]
 exact h.get _
theorem bV.put{ds:List Deferred}{n:Nat}{a:Act}{fr:Fr}(h:bV ds n a fr){d:Option Nat}(hd:dk n d=true)(v:Value):bV ds n (a.put d v) (bT fr d v):=by
 cases d with
 |none=>exact h
 |some d=>
  have hlt:d<n:=by simpa[dk,Nat.blt_eq]using hd
  refine⟨h.defers,by simp[Act.put,h.size],fun s=>?_⟩
  simp only[Act.put,bT]
  have hs:=h.size
  by_cases e:s=d
  ·subst e;simp[hs,hlt]
  ·have e':d≠s:=fun x=>e x.symm
   have hb:Nat.beq s d=false:=by
    cases hh:Nat.beq s d
    ·rfl
    ·exact absurd (Nat.eq_of_beq_eq_true hh) e
   rw[hb]
   simp only[cond_false]
   have:=h.get s
   simpa[Array.getD_eq_getD_getElem?,Array.getElem?_setIfInBounds_ne e']using this
def aj(P:Program)(g:Gh)(f:FuncId)(args:Array Value)(H:Hp)(R:Ending→Hp→Prop):Prop:=
 ∀w,Own g H w→Calls P f args w fun e w'=>∃H',Own g H' w'∧R e H'
theorem aj.mono{P:Program}{g:Gh}{f:FuncId}{args:Array Value}{H:Hp}{R R':Ending→Hp→Prop}(h:aj P g f args H R)(hr:∀e H',R e H'→R' e H'):
  aj P g f args H R':=fun w hw=>(h w hw).mono fun e w' ⟨H',o,r⟩=>⟨H',o,hr _ _ r⟩
theorem aj.pre{P:Program}{g:Gh}{f:FuncId}{args:Array Value}{H H':Hp}{R:Ending→Hp→Prop}(h:aj P g f args H' R)(he:aU H H'):
  aj P g f args H R:=fun w hw=>h w (he _ _ hw)
theorem aj.post{P:Program}{g:Gh}{f:FuncId}{args:Array Value}{H:Hp}{R R':Ending→Hp→Prop}(h:aj P g f args H R)
 (hr:∀e H',R e H'→∃j5,aU H' j5∧R' e j5):aj P g f args H R':=fun w hw=>(h w hw).mono fun e w' ⟨H',o,r⟩=>
 let ⟨j5,en,r'⟩:=hr _ _ r;⟨j5,en _ _ o,r'⟩
def T5(K:Value→Hp→Prop)(KP:List PanicEntry→Hp→Prop):Ending→Hp→Prop
 | .returned v,H=>K v H
 | .panicked ch,H=>KP ch H
 | .outgrown,_=>False
def lA(P:Program)(g:Gh)(K:Value→Hp→Prop)(KP:List PanicEntry→Hp→Prop):Result Next→Prop
 | .ok (.value v) w=>∃H,Own g H w∧K v H
 | .ok .skip w=>∃H,Own g H w∧K undef H
 | .ok (.enter f args) w=>Calls P f args w fun e w'=>∃H,Own g H w'∧T5 K KP e H
 | .halt (.panic v) w=>∃H,Own g H w∧KP [{v,recovered:=false}] H
 |_=>False
def mA(P:Program)(g:Gh)(o:Oper)(ρ:Operand→Value)(H:Hp)(K:Value→Hp→Prop)(KP:List PanicEntry→Hp→Prop):Prop:=
 ∀w,Own g H w→lA P g K KP ((execOp ρ o).run P w)
def bg(H:Hp)(o:Obj)(k:Nat→Hp→Prop):Prop:=∀b,b∉H.map Prod.fst→k b ((b,o)::H)
def aA(c a b:Value)(k:Value→Prop):Prop:=∃t,c=.bool t∧k (cond t a b)
def Ld(H:Hp)(p:Value)(k:Value→Prop):Prop:=
 ∃b off c T fz v,p=.pointer (some ⟨b,off,none⟩)∧(b,Obj.cells c T fz)∈H∧c[off]? =some v∧k v
def aC(n:Nat)(H:Hp)(p:Value)(k:Value→Prop):Prop:=
 ∃b off c T fz,p=.pointer (some ⟨b,off,none⟩)∧(b,Obj.cells c T fz)∈H∧off+n≤c.size∧k (.agg (c.extract off (off+n)))
def St(n:Nat)(H:Hp)(p x:Value)(k:Hp→Prop):Prop:=
 ∃b off c T H',p=.pointer (some ⟨b,off,none⟩)∧x.cells.size=n∧off+n≤c.size∧(∀v∈x.cells.toList,v.oneCell'=true)∧
  dH b (.cells c T (0,0)) (.cells (gN c off x.cells.toList) T (0,0)) H H'∧k H'
inductive BK|num|bool|ptr|slice|map|func|str|other
def vk:TypeDesc→BK
 | .bool=>.bool
 | .int _=>.num
 | .pointer _=>.ptr
 | .slice _=>.slice
 | .map _ _=>.map
 | .func _ _ _=>.func
 | .string=>.str
 |_=>.other
def jH(op:BinOp)(k:IntKind)(a b:Int):Option Value:=
 match op with
 | .add=>some (.int k (k.wrap (a+b)))
 | .sub=>some (.int k (k.wrap (a-b)))
 | .mul=>some (.int k (k.wrap (a*b)))
 | .quo=>if b=0 then none else some (.int k (k.wrap (a.tdiv b)))
 | .rem=>if b=0 then none else some (.int k (a.tmod b))
 | .and=>some (.int k (bits .and k a b))
 | .or=>some (.int k (bits .or k a b))
 | .xor=>some (.int k (bits .xor k a b))
 | .andNot=>some (.int k (bits .andNot k a b))
 | .eql=>some (.bool (a==b))
 | .neq=>some (.bool (a !=b))
 | .lss=>some (.bool (decide (a<b)))
 | .leq=>some (.bool (decide (a≤b)))
 | .gtr=>some (.bool (decide (b<a)))
 | .geq=>some (.bool (decide (b≤a)))
 |_=>none
def fE(kd:BK)(op:BinOp)(x y:Value):Option Value:=
 match x with
 | .int k a=>
  match y with
  | .int k' b=>
   match op with
   | .shl=>if b<0 then none else some (.int k (k.wrap (a*2^(min b.toNat k.bits))))
   | .shr=>if b<0 then none else some (.int k (a.fdiv (2^(min b.toNat k.bits))))
   |op=>if k=k' then jH op k a b else none
  |_=>none
 | .bool a=>
  match kd,op,y with
  | .bool,.eql,.bool b=>some (.bool (a==b))
  | .bool,.neq,.bool b=>some (.bool (!(a==b)))
  |_,_,_=>none
 | .string a=>
  match op,y with
  | .eql,.string b=>some (.bool (a.toList==b.toList))
  | .neq,.string b=>some (.bool (!(a.toList==b.toList)))
  |_,_=>none
 | .pointer a=>
  match kd,op,y with
  | .ptr,.eql,.pointer b=>if a.isNone∨b.isNone then some (.bool (a.isNone&&b.isNone))else none
  | .ptr,.neq,.pointer b=>if a.isNone∨b.isNone then some (.bool (!(a.isNone&&b.isNone)))else none
  |_,_,_=>none
 | .slice a n c=>
  match kd,op,y with
  | .slice,.eql,.slice b _ _=>if a.isNone∨b.isNone then some (.bool (a.isNone&&b.isNone))else none
  | .slice,.neq,.slice b _ _=>if a.isNone∨b.isNone then some (.bool (!(a.isNone&&b.isNone)))else none
  |_,_,_=>none
 | .map a=>
  match kd,op,y with
  | .map,.eql,.map b=>if a.isNone∨b.isNone then some (.bool (a.isNone&&b.isNone))else none
  | .map,.neq,.map b=>if a.isNone∨b.isNone then some (.bool (!(a.isNone&&b.isNone)))else none
  |_,_,_=>none
 |_=>none
def ae(kd:BK)(op:BinOp)(x y:Value)(k:Value→Prop):Prop:=∃v,fE kd op x y=some v∧k v
def Uv(op:UnOp)(x:Value):Option Value:=
 match op,x with
 | .neg,.int k n=>some (.int k (k.wrap (0-n)))
 | .not,.bool b=>some (.bool !b)
 | .xor,.int k n=>some (.int k (bits .xor k (if k.signed then-1 else k.max) n))
 |_,_=>none
def Un(op:UnOp)(x:Value)(k:Value→Prop):Prop:=∃v,Uv op x=some v∧k v
def aW(kd:IntKind)(x:Value)(k:Value→Prop):Prop:=∃j n,x=.int j n∧k (.int kd (kd.wrap n))
def aa(off:Nat)(x:Value)(k:Value→Prop):Prop:=∃b o,x=.pointer (some ⟨b,o,none⟩)∧k (.pointer (some ⟨b,o+off,none⟩))
def JU(off:Nat)(x:Value)(k:Value→Prop):Prop:=∃cs v,x=.agg cs∧cs[off]? =some v∧k v
def Mc(off n:Nat)(x:Value)(k:Value→Prop):Prop:=∃cs,x=.agg cs∧k (.agg (cs.extract off (off+n)))
def ai(size:Nat)(x ix:Value)(k:Value→Prop):Prop:=
 ∃b o n c kd i,x=.slice (some ⟨b,o,none⟩) n c∧ix=.int kd i∧0≤i∧i<(n:Int)∧k (.pointer (some ⟨b,o+i.toNat*size,none⟩))
def gm(len size:Nat)(x ix:Value)(k:Value→Prop):Prop:=
 ∃b o kd i,x=.pointer (some ⟨b,o,none⟩)∧ix=.int kd i∧0≤i∧i<(len:Int)∧k (.pointer (some ⟨b,o+i.toNat*size,none⟩))
def KK:Option Value→Option Int
 |none=>some 0
 |some (.int _ n)=>some n
 |_=>none
def Es(len:Nat):Option Value→Option Int
 |none=>some len
 |some (.int _ n)=>some n
 |_=>none
def fG(size:Nat)(x:Value)(lo hi:Option Value)(k:Value→Prop):Prop:=
 ∃a n c l h,x=.slice a n c∧KK lo=some l∧Es n hi=some h∧0≤l∧l≤h∧h≤(c:Int)∧
  k (.slice (if c=l.toNat then a else a.map (·.add (l.toNat*size))) (h.toNat-l.toNat) (c-l.toNat))
def Ext(i:Nat)(x:Value)(k:Value→Prop):Prop:=∃vs v,x=.tuple vs∧vs[i]? =some v∧k v
def bA(x:Value)(k:Value→Prop):Prop:=∃a n c,x=.slice a n c∧k (.int .i64 n)
def xM(H:Hp)(x:Value)(k:Value→Prop):Prop:=
 ∃m,x=.map m∧((m=none∧k (.int .i64 0))∨∃b es clock,m=some b∧(b,Obj.map es clock)∈H∧k (.int .i64 es.size))
def Cells(H:Hp)(base:Option Addr)(n:Nat)(cs:Array Value):Prop:=
 match base with
 |none=>cs=#[]
 |some a=>(n=0∧cs=#[])∨(a.spot=none∧∃c T fz,(a.block,Obj.cells c T fz)∈H∧a.off+n≤c.size∧cs=c.extract a.off (a.off+n))
def App(P:Program)(elem size bytes:Nat)(zero:Value)(H:Hp)(s x:Value)(k:Value→Hp→Prop):Prop:=
 ∃base n cap xb m xc olds news,s=.slice base n cap∧x=.slice xb m xc∧Cells H base (n*size) olds∧Cells H xb (m*size) news∧
  news.size=m*size∧olds.size=n*size∧(∀v∈news.toList,v.oneCell'=true)∧
  (n+m≤cap→match base with
   |none=>k (.slice none (n+m) cap) H
   |some a=>∃c T H',a.spot=none∧a.off+n*size+m*size≤c.size∧dH a.block (.cells c T (0,0)) (.cells (gN c (a.off+n*size) news.toList) T (0,0)) H H'∧k (.slice (some a) (n+m) cap) H')∧
  (cap<n+m→(n+m)*bytes≤140737488355328∧(n+m:Nat)≤9223372036854775807∧∀eL,n+m≤eL→
   bg H (.cells (olds++news++Builtin.zeroCells zero.cells (eL-(n+m))) elem (0,0)) fun b H'=>∃j5,aU H' j5∧k (.slice (some ⟨b,0,none⟩) (n+m) eL) j5)
def cW(elem size bytes:Nat)(zero:Value)(H:Hp)(l c:Value)(k:Value→Hp→Prop):Prop:=
 ∃kl kc ln cn,l=.int kl (ln:Nat)∧c=.int kc (cn:Nat)∧ln≤cn∧(cn:Int)≤9223372036854775807∧cn*bytes≤281474976710656∧
  bg H (.cells (madeCells zero.cells (cn*size)) elem (0,0)) fun b H'=>k (.slice (some ⟨b,0,none⟩) ln cn) H'
def n8(H:Hp)(k:Value→Hp→Prop):Prop:=bg H (.map #[] 0) fun b H'=>k (.map (some b)) H'
def Dv(H:Hp)(m:Value)(es:Array MapEntry):Prop:=(m=.map none∧es=#[])∨∃b clock,m=.map (some b)∧(b,Obj.map es clock)∈H
def rI(kd:TypeDesc)(zero:Value)(ok:Bool)(H:Hp)(m key:Value)(k:Value→Prop):Prop:=
 ∃es r,Dv H m es∧Instr.findNow kd key es.toList 0=some r∧
  k (match r with
   |some (_,v)=>cond ok (.tuple #[v,.bool true]) v
   |none=>cond ok (.tuple #[zero,.bool false]) zero)
def iK(kd:TypeDesc)(H:Hp)(m key val:Value)(k:Hp→Prop):Prop:=
 ∃b es clock r,m=.map (some b)∧Instr.findNow kd key es.toList 0=some r∧
  match r with
  |some (i,_)=>(∀e,es[i]? =some e→Instr.sameBits 10000 e.key key=true)∧i<es.size∧∃H',dH b (.map es clock) (.map (es.modify i fun e=>{e with key,val}) clock) H H'∧k H'
  |none=>∃H',dH b (.map es clock) (.map (es.push {key,val,born:=clock}) (clock+1)) H H'∧k H'
def rH(kd:TypeDesc)(H:Hp)(m key:Value)(k:Hp→Prop):Prop:=
 (m=.map none∧k H)∨∃b es clock r,m=.map (some b)∧Instr.findNow kd key es.toList 0=some r∧
  match r with
  |some (i,_)=>∃H',dH b (.map es clock) (.map (es.eraseIdxIfInBounds i) clock) H H'∧k H'
  |none=>(b,Obj.map es clock)∈H∧k H
def bh(P:Program)(f:FuncId):Bool:=
 match P.funcs[f]? with
 |none=>false
 |some fn=> !(fn.name== "runtime.NumGoroutine") &&fn.body.isSome
def ag(P:Program)(g:Gh)(f:FuncId)(args:Array Value)(H:Hp)(K:Value→Hp→Prop)(KP:List PanicEntry→Hp→Prop):Prop:=
 aj P g f args H (T5 K KP)
def cg(P:Program)(g:Gh)(fv:Value)(args:Array Value)(H:Hp)(K:Value→Hp→Prop)(KP:List PanicEntry→Hp→Prop):Prop:=
 ∃f first captured,fv=.func (.func f) first captured∧bh P f=true∧ag P g f (first++args++captured) H K KP
def xS(P:Program)(kt:TypeId)(x y:Value)(b:Bool):Prop:=∀w,(Op.equal kt x y).run P w=.ok b w
def j7(P:Program)(kt:TypeId)(x:Value):Prop:=∀e w,(Instr.checkKey e 10000 kt x).run P w=.ok () w
def jW(P:Program)(kt:TypeId)(key:Value):List MapEntry→Nat→Option (Nat×Value)→Prop
 | [],_,r=>r=none
 |e::es,i,r=>∃b,xS P kt key e.key b∧(b=true→r=some (i,e.val))∧(b=false→jW P kt key es (i+1) r)
def iA(P:Program)(kt:TypeId)(zero:Value)(ok:Bool)(H:Hp)(m key:Value)(k:Value→Prop):Prop:=
 ∃es r,Dv H m es∧j7 P kt key∧jW P kt key es.toList 0 r∧
  k (match r with
   |some (_,v)=>cond ok (.tuple #[v,.bool true]) v
   |none=>cond ok (.tuple #[zero,.bool false]) zero)
def iz(P:Program)(kt:TypeId)(H:Hp)(m key val:Value)(k:Hp→Prop):Prop:=
 ∃b es clock r,m=.map (some b)∧j7 P kt key∧jW P kt key es.toList 0 r∧
  match r with
  |some (i,_)=>(∀e,es[i]? =some e→Instr.sameBits 10000 e.key key=true)∧i<es.size∧∃H',dH b (.map es clock) (.map (es.modify i fun e=>{e with key,val}) clock) H H'∧k H'
  |none=>∃H',dH b (.map es clock) (.map (es.push {key,val,born:=clock}) (clock+1)) H H'∧k H'
def n9(P:Program)(kt:TypeId)(H:Hp)(m key:Value)(k:Hp→Prop):Prop:=
 j7 P kt key∧((m=.map none∧k H)∨∃b es clock r,m=.map (some b)∧jW P kt key es.toList 0 r∧
  match r with
  |some (i,_)=>∃H',dH b (.map es clock) (.map (es.eraseIdxIfInBounds i) clock) H H'∧k H'
  |none=>(b,Obj.map es clock)∈H∧k H)
def QM(H:Hp)(x:Value)(k:Value→Hp→Prop):Prop:=
 (x=.map none∧bg H (.mapIter none 0 #[] 0) fun b H'=>k (.pointer (some ⟨b,0,none⟩)) H')∨
 ∃m es clock,x=.map (some m)∧(m,Obj.map es clock)∈H∧bg H (.mapIter (some m) clock #[] clock) fun b H'=>k (.pointer (some ⟨b,0,none⟩)) H'
def PV(H:Hp)(it:Value)(k:Value→Hp→Prop):Prop:=
 ∃b mo since seen last,it=.pointer (some ⟨b,0,none⟩)∧(b,Obj.mapIter mo since seen last)∈H∧
  match mo with
  |none=>k (.tuple #[.bool false]) H
  |some m=>∃es clock,(m,Obj.map es clock)∈H∧(∀e∈es.toList,e.born<since∧e.born<last)∧
   (∀e∈es.toList,e.born∉seen→∃H',dH b (.mapIter (some m) since seen last) (.mapIter (some m) since (seen.push e.born) clock) H H'∧k (.tuple #[.bool true,e.key,e.val]) H')∧
   ((∀e∈es.toList,e.born∈seen)→k (.tuple #[.bool false]) H)
def FA(H:Hp)(it:Value)(k:Value→Prop):Prop:=
 ∃b m since seen stamp clock es e,it=.pointer (some ⟨b,0,none⟩)∧(b,Obj.mapIter (some m) since seen clock)∈H∧seen.back?=some stamp∧(m,Obj.map es clock)∈H∧es.find? (·.born==stamp)=some e∧k (.tuple #[e.key,e.val])
def PX(x y:Value)(k:Value→Prop):Prop:=∃kd a b,x=.int kd a∧y=.int kd b∧k (.int kd (if b>a then b else a))
def PW(x y:Value)(k:Value→Prop):Prop:=∃kd a b,x=.int kd a∧y=.int kd b∧k (.int kd (if b<a then b else a))
def iM(H:Hp)(x:Value)(k:Value→Prop):Prop:=
 ∃base n c,∃bs:List UInt8,x=.slice base n c∧Cells H base n ((bs.map fun b=>Value.int .u8 b.toNat).toArray)∧bs.length=n∧k (.string ⟨bs.toArray⟩)
def Nf(x i:Value)(k:Value→Prop):Prop:=∃s kd j b,x=.string s∧i=.int kd j∧0≤j∧s[j.toNat]? =some b∧k (.int .u8 b.toNat)
def PY(x:Value)(k:Value→Prop):Prop:=∃s,x=.string s∧k (.int .i64 s.size)
def plainKey:TypeDesc→Bool
 | .int _| .string| .bool=>true
 |_=>false
def cv:TypeDesc→Bool
 | .struct _| .array _ _=>true
 |_=>false
end Go.Sx
namespace Go.Sx
open Go
section
variable {P:Program} {g:Gh} {H:Hp} {K:Value→Hp→Prop} {KP:List PanicEntry→Hp→Prop}
theorem di{t:TypeId}{i:TypeInfo}{z:Value}(hi:P.info? t=some i)(hz:i.zero=some z)(w:World):(zeroValue t).run P w=.ok z w:=by
 simp[zeroValue,typeInfo,hi,hz]
theorem lF{t:TypeId}{d:TypeDesc}(hd:P.underlying t=some d)(w:World):(isAgg t).run P w=.ok (cv d) w:=by
 simp only[isAgg,Sem.run_bind,run_underlying hd,Result.andThen_ok]
 cases d<;>rfl
theorem run_sizeOf{t:TypeId}{i:TypeInfo}(hi:P.info? t=some i)(w:World):(sizeOf t).run P w=.ok i.size w:=by
 simp[sizeOf,typeInfo,hi]
theorem Ld.run{p:Value}{k:Value→Prop}(h:Ld H p k){w:World}(hw:Own g H w){t:TypeId}{d:TypeDesc}(hd:P.underlying t=some d)(ha:cv d=false):
  ∃v,(Instr.loadAt t p).run P w=.ok v w∧k v:=by
 obtain⟨b,off,c,T,fz,v,rfl,hm,hc,hk⟩:=h
 refine⟨v,?_,hk⟩
 have:=hw.cell hm off
 rw[hc]at this
 simp only[Instr.loadAt,Instr.sureAddr,loadVar,Sem.run_bind,Sem.run_pure,Result.andThen_ok,lF hd,ha,Sem.run_ite,Bool.false_eq_true,if_false,run_load,this]
theorem aC.run{n:Nat}{p:Value}{k:Value→Prop}(h:aC n H p k){w:World}(hw:Own g H w){t:TypeId}{d:TypeDesc}(hd:P.underlying t=some d)(ha:cv d=true)
 {i:TypeInfo}(hi:P.info? t=some i)(hn:i.size=n):
  ∃v,(Instr.loadAt t p).run P w=.ok v w∧k v:=by
 obtain⟨b,off,c,T,fz,rfl,hm,hs,hk⟩:=h
 refine⟨_,?_,hk⟩
 simp only[Instr.loadAt,Instr.sureAddr,loadVar,Sem.run_bind,Sem.run_pure,Result.andThen_ok,lF hd,ha,Sem.run_ite,if_true,run_sizeOf hi,hn,ic hw hm off n hs]
theorem St.run{n:Nat}{p x:Value}{k:Hp→Prop}(h:St n H p x k){w:World}(hw:Own g H w){t:TypeId}{i:TypeInfo}(hi:P.info? t=some i)(hn:i.size=n):
  ∃w' H',(Instr.storeAt t p x).run P w=.ok () w'∧Own g H' w'∧k H':=by
 obtain⟨b,off,c,T,H',rfl,hx,hs,hv,hu,hk⟩:=h
 obtain⟨w',hr,ho⟩:=eJ (P:=P) off x.cells.toList 0 c H H' w hw (by simpa using hu) hv (by simp;omega)
 refine⟨w',H',?_,ho,hk⟩
 simp only[Instr.storeAt,Instr.sureAddr,storeVar,Sem.run_bind,Sem.run_pure,Result.andThen_ok,run_sizeOf hi,hn,hx,ne_eq,not_true,if_false,hr]
theorem Hq{op:BinOp}{k:IntKind}{a b:Int}{v:Value}{t:TypeId}(h:jH op k a b=some v)(w:World)(hs:op≠.shl∧op≠.shr):
  (binOp op t (.int k a) (.int k b)).run P w=.ok v w:=by
 cases op<;>simp[jH]at h hs<;>try subst h
 case quo=> 
  obtain⟨h0,rfl⟩:=h
  simp[binOp,Op.intDiv,h0]
 case rem=>
  obtain⟨h0,rfl⟩:=h
  simp[binOp,Op.intDiv,h0]
 all_goals first
  |simp[binOp,Op.intArith];done
  |simp[binOp,Op.intCmp];done
  |(simp only[binOp_and,binOp_or,binOp_xor,binOp_andNot,intBits_and,intBits_or,intBits_xor,intBits_andNot];rfl)
theorem gr{t:TypeId}{x y:Value}{r:Result Bool}{w:World}(h:∀d,(Op.equalIn (d+1) t x y).run P w=r):(Op.equal t x y).run P w=r:=h 9999
theorem run_eql_bool{t:TypeId}(hd:P.underlying t=some .bool)(a b:Bool)(w:World):(Op.equal t (.bool a) (.bool b)).run P w=.ok (a==b) w:=
 gr fun d=>by simp[Op.equalIn,run_underlying hd]
theorem vZ{t e:TypeId}(hd:P.underlying t=some (.pointer e))(a b:Option Addr)(hab:a.isNone∨b.isNone)(w:World):(Op.equal t (.pointer a) (.pointer b)).run P w=.ok (a.isNone&&b.isNone) w:=
 gr fun d=>by cases a<;>cases b<;>simp at hab<;>simp[Op.equalIn,run_underlying hd]
theorem sn{t e:TypeId}(hd:P.underlying t=some (.slice e))(a b:Option Addr)(n c n' c':Nat)(hab:a.isNone∨b.isNone)(w:World):(Op.equal t (.slice a n c) (.slice b n' c')).run P w=.ok (a.isNone&&b.isNone) w:=
 gr fun d=>by cases a<;>cases b<;>simp at hab<;>simp[Op.equalIn,run_underlying hd]
theorem wc{t e f:TypeId}(hd:P.underlying t=some (.map e f))(a b:Option Nat)(hab:a.isNone∨b.isNone)(w:World):(Op.equal t (.map a) (.map b)).run P w=.ok (a.isNone&&b.isNone) w:=
 gr fun d=>by cases a<;>cases b<;>simp at hab<;>simp[Op.equalIn,run_underlying hd]
theorem IM{kd:BK}{op:BinOp}{x y v:Value}{t:TypeId}{d:TypeDesc}(hd:P.underlying t=some d)(hk:vk d=kd)(h:fE kd op x y=some v)(w:World):
  (binOp op t x y).run P w=.ok v w:=by
 cases x<;>simp only[fE]at h<;>try (simp at h;done)
 case int k a=>
  cases y<;>simp only at h<;>try (simp at h;done)
  rename_i k' b
  by_cases hs:op=.shl
  ·subst hs
   simp only at h
   split at h
   ·simp at h
   ·simp only[Option.some.injEq]at h;subst h;rename_i hb;simp[binOp,Op.shift,hb]
  by_cases hs':op=.shr
  ·subst hs'
   simp only at h
   split at h
   ·simp at h
   ·simp only[Option.some.injEq]at h;subst h;rename_i hb;simp[binOp,Op.shift,hb]
  have h2:(if k=k' then jH op k a b else none)=some v:=by
   cases op<;>first|exact h|exact absurd rfl hs|exact absurd rfl hs'
  split at h2
  ·rename_i e;subst e;exact Hq h2 w ⟨hs,hs'⟩
  ·simp at h2
 case bool a=>
  split at h<;>simp only[Option.some.injEq,reduceCtorEq]at h
  all_goals
   subst h
   have:d=.bool:=by cases d<;>simp_all[vk]
   subst this
   simp[binOp,run_eql_bool hd]
 case string a=>
  split at h<;>simp only[Option.some.injEq,reduceCtorEq]at h
  all_goals
   subst h
   first|rfl|(simp only[binOp,Op.stringOp];rfl)
 case pointer a=>
  split at h<;>try (simp at h;done)
  all_goals
   have:∃e,d=.pointer e:=by cases d<;>simp_all[vk]
   obtain⟨e,rfl⟩:=this
   split at h<;>simp only[Option.some.injEq,reduceCtorEq]at h
   subst h
   rename_i bb hab
   simp[binOp,vZ hd _ _ hab]
 case slice a n c=>
  split at h<;>try (simp at h;done)
  all_goals
   have:∃e,d=.slice e:=by cases d<;>simp_all[vk]
   obtain⟨e,rfl⟩:=this
   split at h<;>simp only[Option.some.injEq,reduceCtorEq]at h
   subst h
   rename_i bb _ _ hab
   simp[binOp,sn hd _ _ _ _ _ _ hab]
 case map a=>
  split at h<;>try (simp at h;done)
  all_goals
   have:∃e f,d=.map e f:=by cases d<;>simp_all[vk]
   obtain⟨e,f,rfl⟩:=this
   split at h<;>simp only[Option.some.injEq,reduceCtorEq]at h
   subst h
   rename_i bb hab
   simp[binOp,wc hd _ _ hab]
theorem zn{kd:BK}{op:BinOp}{x y v:Value}{t:TypeId}{ox oy:Operand}(h:fE kd op x y=some v):eqGuard op t ox oy x y=pure ():=by
 cases x<;>simp[fE]at h<;>cases op<;>rfl
theorem ae.run{kd:BK}{op:BinOp}{x y:Value}{k:Value→Prop}(h:ae kd op x y k)(w:World){t:TypeId}{d:TypeDesc}{ox oy:Operand}(hd:P.underlying t=some d)(hk:vk d=kd):
  ∃v,(do eqGuard op t ox oy x y;binOp op t x y:Sem Value).run P w=.ok v w∧k v:=by
 obtain⟨v,hv,hkv⟩:=h
 refine⟨v,?_,hkv⟩
 rw[Sem.run_bind,zn hv]
 simp only[Sem.run_pure,Result.andThen_ok]
 exact IM hd hk hv w
theorem Un.run{op:UnOp}{x:Value}{k:Value→Prop}(h:Un op x k)(w:World):∃v,(Op.unary op x).run P w=.ok v w∧k v:=by
 obtain⟨v,hv,hk⟩:=h
 refine⟨v,?_,hk⟩
 cases op<;>cases x<;>simp[Uv]at hv<;>subst hv
 all_goals first|(simp[Op.unary,Op.intArith];done)|rfl
theorem aW.run{kd:IntKind}{x:Value}{k:Value→Prop}(h:aW kd x k)(w:World){src dst:TypeId}{ds dd:TypeDesc}(hs:P.underlying src=some ds)(hd:P.underlying dst=some dd)(hk:dd=.int kd):
  ∃v,(convert src dst x).run P w=.ok v w∧k v:=by
 obtain⟨j,n,rfl,hkv⟩:=h
 subst hk
 refine⟨_,?_,hkv⟩
 simp only[convert,Sem.run_bind,run_underlying hs,run_underlying hd,Result.andThen_ok]
 cases ds<;>rfl
theorem aa.run{off:Nat}{x:Value}{k:Value→Prop}(h:aa off x k)(w:World){s:TypeId}{fs:Array Field}{f:Nat}{fl:Field}{i:TypeInfo}(hs:P.underlying s=some (.struct fs))(hf:fs[f]? =some fl)
 (hi:P.info? fl.type=some i)(h0:i.size≠0)(ho:fl.offset=off):∃v,(Instr.fieldAt s x f).run P w=.ok v w∧k v:=by
 obtain⟨b,o,rfl,hk⟩:=h
 refine⟨_,?_,hk⟩
 subst ho
 simp[Instr.fieldAt,run_underlying hs,hf,Instr.sureAddr,fieldPlace,run_sizeOf hi,h0,Addr.add_lit]
theorem JU.run{off:Nat}{x:Value}{k:Value→Prop}(h:JU off x k)(w:World){s:TypeId}{fs:Array Field}{f:Nat}{fl:Field}{d:TypeDesc}(hs:P.underlying s=some (.struct fs))(hf:fs[f]? =some fl)
 (hd:P.underlying fl.type=some d)(ha:cv d=false)(ho:fl.offset=off):∃v,(Instr.field s x f).run P w=.ok v w∧k v:=by
 obtain⟨cs,v,rfl,hc,hk⟩:=h
 refine⟨v,?_,hk⟩
 subst ho
 simp[Instr.field,run_underlying hs,hf,asAgg,part,lF hd,ha,hc]
theorem Mc.run{off n:Nat}{x:Value}{k:Value→Prop}(h:Mc off n x k)(w:World){s:TypeId}{fs:Array Field}{f:Nat}{fl:Field}{d:TypeDesc}{i:TypeInfo}(hs:P.underlying s=some (.struct fs))(hf:fs[f]? =some fl)
 (hd:P.underlying fl.type=some d)(ha:cv d=true)(hi:P.info? fl.type=some i)(hn:i.size=n)(ho:fl.offset=off):∃v,(Instr.field s x f).run P w=.ok v w∧k v:=by
 obtain⟨cs,rfl,hk⟩:=h
 refine⟨_,?_,hk⟩
 subst ho;subst hn
 simp[Instr.field,run_underlying hs,hf,asAgg,part,lF hd,ha,run_sizeOf hi]
theorem ai.run{size:Nat}{x ix:Value}{k:Value→Prop}(h:ai size x ix k)(w:World){t e:TypeId}{i:TypeInfo}(ht:P.underlying t=some (.slice e))(hi:P.info? e=some i)(hn:i.size=size):
  ∃v,(Instr.indexAt t x ix).run P w=.ok v w∧k v:=by
 obtain⟨b,o,n,c,kd,j,rfl,rfl,h0,h1,hk⟩:=h
 refine⟨_,?_,hk⟩
 subst hn
 simp[Instr.indexAt,run_underlying ht,asIntOf,h0,h1,run_sizeOf hi,Addr.add_lit]
theorem gm.run{len size:Nat}{x ix:Value}{k:Value→Prop}(h:gm len size x ix k)(w:World){t e:TypeId}{i:TypeInfo}(ht:P.underlying t=some (.array len e))(hi:P.info? e=some i)(hn:i.size=size):
  ∃v,(Instr.indexAt t x ix).run P w=.ok v w∧k v:=by
 obtain⟨b,o,kd,j,rfl,rfl,h0,h1,hk⟩:=h
 refine⟨_,?_,hk⟩
 subst hn
 simp[Instr.indexAt,run_underlying ht,asIntOf,h0,h1,run_sizeOf hi,Addr.add_lit,Instr.sureAddr]
theorem fG.run{size:Nat}{x:Value}{lo hi:Option Value}{k:Value→Prop}(h:fG size x lo hi k)(w:World){t e:TypeId}{i:TypeInfo}(ht:P.underlying t=some (.slice e))(hi':P.info? e=some i)(hn:i.size=size):
  ∃v,(Instr.sliceAt t x lo hi none).run P w=.ok v w∧k v:=by
 obtain⟨a,n,c,l,hh,rfl,hl,ni,h0,h1,h2,hk⟩:=h
 refine⟨_,?_,hk⟩
 subst hn
 have bl:∀(kk:IntKind) (z:Int) (y:Nat) (cd:BoundsCode),0≤z→z≤y→(Instr.sliceBound (.int kk z) y cd).run P w=.ok z.toNat w:=by
  intro kk z y cd a1 a2
  simp[Instr.sliceBound,asIntOf,a1,a2]
 have fx:∀(m l:Nat),(if m=l then a else a.map (·.add (l*i.size)))=(if m=l then a else a.map fun x=>x.add (l*i.size)):=fun _ _=>rfl
 have e1:l≤((hh.toNat:Nat):Int):=by omega
 cases lo with
 |none=>
  simp only[KK,Option.some.injEq]at hl
  subst hl
  cases hi with
  |none=>
   simp only[Es,Option.some.injEq]at ni
   subst ni
   simp[Instr.sliceAt,run_underlying ht,Instr.slice,Instr.sliceBounds,run_sizeOf hi']
  |some v=>
   cases v<;>simp only[Es,reduceCtorEq,Option.some.injEq]at ni
   subst ni
   simp[Instr.sliceAt,run_underlying ht,Instr.slice,Instr.sliceBounds,run_sizeOf hi',bl _ _ c .sliceAcap (by omega) h2]
 |some vl=>
  cases vl<;>simp only[KK,reduceCtorEq,Option.some.injEq]at hl
  subst hl
  cases hi with
  |none=>
   simp only[Es,Option.some.injEq]at ni
   subst ni
   have:=bl ‹_› _ n .sliceB h0 h1
   simp[Instr.sliceAt,run_underlying ht,Instr.slice,Instr.sliceBounds,run_sizeOf hi',this]
  |some v=>
   cases v<;>simp only[Es,reduceCtorEq,Option.some.injEq]at ni
   subst ni
   rename_i k1 n1 k2 n2
   have b1:=bl k2 n2 c .sliceAcap (by omega) h2
   have b2:=bl k1 n1 n2.toNat .sliceB h0 (by omega)
   simp[Instr.sliceAt,run_underlying ht,Instr.slice,Instr.sliceBounds,run_sizeOf hi',b1,b2]
theorem Ext.run{i:Nat}{x:Value}{k:Value→Prop}(h:Ext i x k)(w:World):∃v,(Instr.extract x i).run P w=.ok v w∧k v:=by
 obtain⟨vs,v,rfl,hv,hk⟩:=h
 exact⟨v,by simp[Instr.extract,hv],hk⟩
theorem bA.run{x:Value}{k:Value→Prop}(h:bA x k)(w:World){t e ty:TypeId}(ht:P.underlying t=some (.slice e)):∃v,(Builtin.len_ #[t] ty #[x]).run P w=.ok v w∧k v:=by
 obtain⟨a,n,c,rfl,hk⟩:=h
 exact⟨_,by simp[Builtin.len_,run_underlying ht,goInt],hk⟩
theorem aS{w:World}(hw:Own g H w){b:Nat}{es:Array MapEntry}{clock:Nat}(hm:(b,Obj.map es clock)∈H):(getObj b).run P w=.ok (.map es clock) w:=by
 have:=hw.has _ hm
 simp only at this
 simp[getObj,Sem.run,this]
theorem xM.run{x:Value}{k:Value→Prop}(h:xM H x k){w:World}(hw:Own g H w){t e e' ty:TypeId}(ht:P.underlying t=some (.map e e')):∃v,(Builtin.len_ #[t] ty #[x]).run P w=.ok v w∧k v:=by
 obtain⟨m,rfl,⟨rfl,hk⟩|⟨b,es,clock,rfl,hm,hk⟩⟩:=h
 ·exact⟨_,by simp[Builtin.len_,run_underlying ht,goInt],hk⟩
 ·exact⟨_,by simp[Builtin.len_,run_underlying ht,goInt,aS hw hm],hk⟩
end
end Go.Sx
namespace Go.Sx
open Go
section
variable {P:Program} {g:Gh} {H:Hp} {K:Value→Hp→Prop} {KP:List PanicEntry→Hp→Prop}
theorem Cells.run{w:World}(hw:Own g H w){base:Option Addr}{size n cap:Nat}{cs:Array Value}(h:Cells H base (n*size) cs):
  (Builtin.firstCells size n (.slice base n cap)).run P w=.ok cs w:=by
 cases base with
 |none=>simp only[Cells]at h;subst h;simp[Builtin.firstCells]
 |some a=>
  rcases h with⟨hn,rfl⟩|⟨h0,c,T,fz,hm,hs,rfl⟩
  ·simp only[Builtin.firstCells,hn];rfl
  obtain⟨b,o,sp⟩:=a
  simp only at h0 hm hs;subst h0
  simp only[Builtin.firstCells,ic hw hm _ _ hs]
theorem App.run{elem size bytes:Nat}{zero:Value}{s x:Value}{k:Value→Hp→Prop}(h:App P elem size bytes zero H s x k){w:World}(hw:Own g H w){t t' ty:TypeId}{i:TypeInfo}
 (ht:P.underlying t=some (.slice elem))(ht':∃e,P.underlying t'=some (.slice e))(hi:P.info? elem=some i)(hz:i.zero=some zero)(hn:i.size=size)(hb:i.bytes=bytes):
  ∃v w' H',(Builtin.append_ #[t,t'] ty #[s,x]).run P w=.ok v w'∧Own g H' w'∧k v H':=by
 obtain⟨base,n,cap,xb,m,xc,olds,news,rfl,rfl,hco,SG,hsn,hso,hone,hfit,hgrow⟩:=h
 obtain⟨e',ht'⟩:=ht'
 subst hn;subst hb
 by_cases hc:n+m≤cap
 ·have hk:=hfit hc
  have hnew:=Cells.run (P:=P) (cap:=xc) hw SG
  cases base with
  |none=>
   refine⟨_,w,H,?_,hw,hk⟩
   simp[Builtin.append_,run_underlying ht,run_underlying ht',run_sizeOf hi,Builtin.lenOf,hc,hnew]
  |some a=>
   obtain⟨c,T,H',h0,hs,hu,hk⟩:=hk
   obtain⟨b,o,sp⟩:=a
   simp only at h0 hu hs;subst h0
   obtain⟨w',hr,ho⟩:=eJ (P:=P) (o+n*i.size) news.toList 0 c H H' w hw (by simpa using hu) hone (by simp;omega)
   refine⟨_,w',H',?_,ho,hk⟩
   simp[Builtin.append_,run_underlying ht,run_underlying ht',run_sizeOf hi,Builtin.lenOf,hc,hnew,Addr.add_lit,hr]
 ·obtain⟨XX,h63,hk⟩:=hgrow (by omega)
  have js:=hw.drew
  have hnew:=Cells.run (P:=P) (cap:=xc) js SG
  have hold:=Cells.run (P:=P) (cap:=cap) js hco
  have hnx:Builtin.nextslicecap (n+m) cap*i.bytes≤281474976710656:=growslice_fits (by omega) XX
  have Yq:¬(281474976710656<Builtin.nextslicecap (n+m) cap*i.bytes):=by omega
  have Yp:¬(9223372036854775807<((n:Int)+(m:Int))):=by omega
  obtain⟨j5,qO,hkk⟩:=hk (grownCap w (n+m) cap elem) (by simp only[grownCap,Question.cut];omega) _ js.fresh
  refine⟨_,_,_,?_,qO _ _ (js.alloc _),hkk⟩
  ·simp[Builtin.append_,run_underlying ht,run_underlying ht',sizeOf,typeInfo,zeroValue,hi,hz,Builtin.lenOf,hc,Yp,Yq,Question.forced,hnew,hold,newRow,grownCap]
theorem cW.run{elem size bytes:Nat}{zero:Value}{l c:Value}{k:Value→Hp→Prop}(h:cW elem size bytes zero H l c k){w:World}(hw:Own g H w){t:TypeId}{i:TypeInfo}
 (ht:P.underlying t=some (.slice elem))(hi:P.info? elem=some i)(hz:i.zero=some zero)(hn:i.size=size)(hb:i.bytes=bytes):
  ∃v w' H',(Instr.makeSlice t l c).run P w=.ok v w'∧Own g H' w'∧k v H':=by
 obtain⟨kl,kc,ln,cn,rfl,rfl,hlc,bX,hby,hk⟩:=h
 subst hn;subst hb
 refine⟨_,_,_,?_,hw.alloc _,hk _ hw.fresh⟩
 have e1:IntKind.i64.wrap (ln:Int)=ln:=IntWalk.i64_in _ (by omega)
 have e2:IntKind.i64.wrap (cn:Int)=cn:=IntWalk.i64_in _ (by omega)
 have e3:¬((i.bytes:Int)*(cn:Int)>281474976710656):=by
  have:((cn*i.bytes:Nat):Int)≤281474976710656:=by omega
  rw[Int.mul_comm];push_cast at this;omega
 have e4:¬((cn:Int)<ln):=by omega
 by_cases h0:cn*i.size=0
 ·simp[Instr.makeSlice,run_underlying ht,asInt,asIntOf,typeInfo,hi,e1,e2,e3,e4,sizeOf,zeroValue,hz,newRow,madeCells,h0,show¬((cn:Int)<0)from by omega,show¬((ln:Int)<0)from by omega]
  have:Array.range 0=#[]:=rfl
  simp[this]
 ·simp[Instr.makeSlice,run_underlying ht,asInt,asIntOf,typeInfo,hi,e1,e2,e3,e4,sizeOf,zeroValue,hz,newRow,madeCells,h0,show¬((cn:Int)<0)from by omega,show¬((ln:Int)<0)from by omega]
theorem Dv.run{m:Value}{es:Array MapEntry}(h:Dv H m es){w:World}(hw:Own g H w):
  (m=.map none∧es=#[])∨∃b clock,m=.map (some b)∧(getObj b).run P w=.ok (.map es clock) w:=by
 rcases h with h|⟨b,clock,hm,hb⟩
 ·exact .inl h
 ·exact .inr ⟨b,clock,hm,aS hw hb⟩
theorem run_checkKey(e:Bool){t:TypeId}{d:TypeDesc}(hd:P.underlying t=some d)(hp:plainKey d=true)(v:Value)(w:World):(Instr.checkKey e 10000 t v).run P w=.ok () w:=by
 have:∀n,(Instr.checkKey e (n+1) t v).run P w=.ok () w:=fun n=>by
  simp only[Instr.checkKey,Sem.run_bind,run_underlying hd,Result.andThen_ok]
  cases d<;>first|(simp[plainKey]at hp;done)|rfl
 exact this 9999
theorem run_findKey{t:TypeId}{d:TypeDesc}(hd:P.underlying t=some d){key:Value}{es:List MapEntry}{r:Option (Nat×Value)}(h:Instr.findNow d key es 0=some r)(w:World):
  (Instr.findKey t key es).run P w=.ok r w:=by
 simp[Instr.findKey,run_underlying hd,h]
theorem rI.run{kd:TypeDesc}{zero:Value}{ok:Bool}{m key:Value}{k:Value→Prop}(h:rI kd zero ok H m key k){w:World}(hw:Own g H w){t kt e:TypeId}{i:TypeInfo}
 (ht:P.underlying t=some (.map kt e))(hk:P.underlying kt=some kd)(hp:plainKey kd=true)(hi:P.info? e=some i)(hz:i.zero=some zero):
  ∃v,(Instr.lookup t m key ok).run P w=.ok v w∧k v:=by
 obtain⟨es,r,hm,hf,hkv⟩:=h
 have dR:=fun b=>run_checkKey (P:=P) b hk hp key w
 have nM:=run_findKey (P:=P) hk hf w
 refine⟨_,?_,hkv⟩
 rcases hm.run (P:=P) hw with⟨rfl,rfl⟩|⟨b,clock,rfl,hg⟩
 ·cases r with
  |none=>cases ok<;>simp[Instr.lookup,run_underlying ht,dR,nM,di hi hz]
  |some x=>obtain⟨j,v⟩:=x;cases ok<;>simp[Instr.lookup,run_underlying ht,dR,nM]
 ·cases r with
  |none=>cases ok<;>simp[Instr.lookup,run_underlying ht,dR,nM,di hi hz,hg]
  |some x=>obtain⟨j,v⟩:=x;cases ok<;>simp[Instr.lookup,run_underlying ht,dR,nM,hg]
theorem bC{w:World}(hw:Own g H w){b:Nat}{es:Array MapEntry}{clock:Nat}(es':Array MapEntry)(clock':Nat){H':Hp}(hu:dH b (.map es clock) (.map es' clock') H H'):
  ∃w',(setObj b (.map es' clock')).run P w=.ok () w'∧Own g H' w':=by
 have hm:=hw.has _ hu.mem
 simp only at hm
 refine⟨{w with heap:=w.heap.setIfInBounds b (.map es' clock')},by simp[setObj,Sem.run,hm],?_⟩
 have hlt:=hw.lt hu.mem
 refine hw.bT hu rfl rfl rfl ?_ ?_
 ·simp only at hlt;simp[hlt]
 ·intro c hc;rw[Array.getElem?_setIfInBounds,if_neg (fun e=>hc (Eq.symm e))]
theorem iK.run{kd:TypeDesc}{m key val:Value}{k:Hp→Prop}(h:iK kd H m key val k){w:World}(hw:Own g H w){t kt e:TypeId}
 (ht:P.underlying t=some (.map kt e))(hk:P.underlying kt=some kd)(hp:plainKey kd=true):
  ∃w' H',(Instr.mapUpdate t m key val).run P w=.ok () w'∧Own g H' w'∧k H':=by
 obtain⟨b,es,clock,r,rfl,hf,hr⟩:=h
 have dR:=fun b=>run_checkKey (P:=P) b hk hp key w
 have nM:=run_findKey (P:=P) hk hf w
 cases r with
 |none=>
  obtain⟨H',hu,hkk⟩:=hr
  obtain⟨w',hs,ho⟩:=bC (P:=P) hw _ _ hu
  refine⟨w',H',?_,ho,hkk⟩
  simp[Instr.mapUpdate,run_underlying ht,aS hw hu.mem,dR,nM,hs]
 |some x=>
  obtain⟨j,v⟩:=x
  obtain⟨hsame,hj,H',hu,hkk⟩:=hr
  obtain⟨w',hs,ho⟩:=bC (P:=P) hw _ _ hu
  refine⟨w',H',?_,ho,hkk⟩
  have Xf:=hsame es[j] (Array.getElem?_eq_getElem hj)
  simp[Instr.mapUpdate,run_underlying ht,aS hw hu.mem,dR,nM,hj,Instr.keyThatStays,Xf,hs]
theorem rH.run{kd:TypeDesc}{m key:Value}{k:Hp→Prop}(h:rH kd H m key k){w:World}(hw:Own g H w){t kt e ty:TypeId}{as:Array TypeId}(has:as[0]? =some t)
 (ht:P.underlying t=some (.map kt e))(hk:P.underlying kt=some kd)(hp:plainKey kd=true):
  ∃w' H',(Builtin.delete_ as ty #[m,key]).run P w=.ok (.tuple #[]) w'∧Own g H' w'∧k H':=by
 have dR:=fun b=>run_checkKey (P:=P) b hk hp key w
 rcases h with⟨rfl,hkk⟩|⟨b,es,clock,r,rfl,hf,hr⟩
 ·exact⟨w,H,by simp[Builtin.delete_,has,run_underlying ht,dR],hw,hkk⟩
 ·have nM:=run_findKey (P:=P) hk hf w
  cases r with
  |none=>
   obtain⟨hm,hkk⟩:=hr
   have hu:∃H',dH b (.map es clock) (.map es clock) H H'∧H'=H:=by
    clear hkk hf nM hw
    induction H with
    |nil=>simp at hm
    |cons x R ih=>
     rcases List.mem_cons.1 hm with e|hm'
     ·subst e;exact⟨_,.head _,rfl⟩
     ·obtain⟨H',u,rfl⟩:=ih hm';exact⟨_,.tail u,rfl⟩
   obtain⟨H',hu,rfl⟩:=hu
   obtain⟨w',hs,ho⟩:=bC (P:=P) hw _ _ hu
   exact⟨w',_,by simp[Builtin.delete_,has,run_underlying ht,aS hw hm,dR,nM,hs],ho,hkk⟩
  |some x=>
   obtain⟨j,v⟩:=x
   obtain⟨H',hu,hkk⟩:=hr
   obtain⟨w',hs,ho⟩:=bC (P:=P) hw _ _ hu
   exact⟨w',_,by simp[Builtin.delete_,has,run_underlying ht,aS hw hu.mem,dR,nM,hs],ho,hkk⟩
theorem xm{kd:TypeDesc}(h:cv kd=true)(key:Value)(es:List MapEntry)(i:Nat):Instr.findNow kd key es i=if es=[]then some none else none:=by
 cases es with
 |nil=>rfl
 |cons e r=>
  simp only[Instr.findNow,reduceCtorEq,if_false]
  cases kd<;>simp[cv]at h<;>rfl
theorem kC{kt:TypeId}{key:Value}:∀{es:List MapEntry} {i:Nat} {r:Option (Nat×Value)},jW P kt key es i r→∀w,(Instr.findAsking kt key es i).run P w=.ok r w
 | [],i,r,h,w=>by simp only[jW]at h;subst h;rfl
 |e::es,i,r,h,w=>by
  obtain⟨b,he,h1,h2⟩:=h
  simp only[Instr.findAsking,Sem.run_bind,he w,Result.andThen_ok]
  cases b
  ·simp only[Bool.false_eq_true,if_false];exact kC (h2 rfl) w
  ·simp only[if_true,h1 rfl,Sem.run_pure]
theorem e7{t:TypeId}{d:TypeDesc}(hd:P.underlying t=some d)(ha:cv d=true){key:Value}{es:List MapEntry}{r:Option (Nat×Value)}(h:jW P t key es 0 r)(w:World):
  (Instr.findKey t key es).run P w=.ok r w:=by
 simp only[Instr.findKey,Sem.run_bind,run_underlying hd,Result.andThen_ok,xm ha]
 cases es with
 |nil=>simp only[jW]at h;subst h;simp
 |cons e es=>simp only[reduceCtorEq,if_false];exact kC h w
theorem iA.run{zero:Value}{ok:Bool}{m key:Value}{k:Value→Prop}{t kt e:TypeId}{kd:TypeDesc}(h:iA P kt zero ok H m key k){w:World}(hw:Own g H w){i:TypeInfo}
 (ht:P.underlying t=some (.map kt e))(hk:P.underlying kt=some kd)(hp:cv kd=true)(hi:P.info? e=some i)(hz:i.zero=some zero):
  ∃v,(Instr.lookup t m key ok).run P w=.ok v w∧k v:=by
 obtain⟨es,r,hm,hc,hf,hkv⟩:=h
 have dR:=fun b=>hc b w
 have nM:=e7 (P:=P) hk hp hf w
 refine⟨_,?_,hkv⟩
 rcases hm.run (P:=P) hw with⟨rfl,rfl⟩|⟨b,clock,rfl,hg⟩
 ·cases r with
  |none=>cases ok<;>simp[Instr.lookup,run_underlying ht,dR,nM,di hi hz]
  |some x=>obtain⟨j,v⟩:=x;cases ok<;>simp[Instr.lookup,run_underlying ht,dR,nM]
 ·cases r with
  |none=>cases ok<;>simp[Instr.lookup,run_underlying ht,dR,nM,di hi hz,hg]
  |some x=>obtain⟨j,v⟩:=x;cases ok<;>simp[Instr.lookup,run_underlying ht,dR,nM,hg]
theorem iz.run{m key val:Value}{k:Hp→Prop}{t kt e:TypeId}{kd:TypeDesc}(h:iz P kt H m key val k){w:World}(hw:Own g H w)
 (ht:P.underlying t=some (.map kt e))(hk:P.underlying kt=some kd)(hp:cv kd=true):
  ∃w' H',(Instr.mapUpdate t m key val).run P w=.ok () w'∧Own g H' w'∧k H':=by
 obtain⟨b,es,clock,r,rfl,hc,hf,hr⟩:=h
 have dR:=fun b=>hc b w
 have nM:=e7 (P:=P) hk hp hf w
 cases r with
 |none=>
  obtain⟨H',hu,hkk⟩:=hr
  obtain⟨w',hs,ho⟩:=bC (P:=P) hw _ _ hu
  refine⟨w',H',?_,ho,hkk⟩
  simp[Instr.mapUpdate,run_underlying ht,aS hw hu.mem,dR,nM,hs]
 |some x=>
  obtain⟨j,v⟩:=x
  obtain⟨hsame,hj,H',hu,hkk⟩:=hr
  obtain⟨w',hs,ho⟩:=bC (P:=P) hw _ _ hu
  refine⟨w',H',?_,ho,hkk⟩
  have Xf:=hsame es[j] (Array.getElem?_eq_getElem hj)
  simp[Instr.mapUpdate,run_underlying ht,aS hw hu.mem,dR,nM,hj,Instr.keyThatStays,Xf,hs]
theorem dH.same{b:Nat}{o:Obj}{H:Hp}(hm:(b,o)∈H):dH b o o H H:=by
 induction H with
 |nil=>simp at hm
 |cons x R ih=>
  rcases List.mem_cons.1 hm with e|hm'
  ·subst e;exact .head _
  ·exact .tail (ih hm')
theorem n9.run{m key:Value}{k:Hp→Prop}{t kt e ty:TypeId}{kd:TypeDesc}{as:Array TypeId}(h:n9 P kt H m key k){w:World}(hw:Own g H w)(has:as[0]? =some t)
 (ht:P.underlying t=some (.map kt e))(hk:P.underlying kt=some kd)(hp:cv kd=true):
  ∃w' H',(Builtin.delete_ as ty #[m,key]).run P w=.ok (.tuple #[]) w'∧Own g H' w'∧k H':=by
 obtain⟨hc,h⟩:=h
 have dR:=fun b=>hc b w
 rcases h with⟨rfl,hkk⟩|⟨b,es,clock,r,rfl,hf,hr⟩
 ·exact⟨w,H,by simp[Builtin.delete_,has,run_underlying ht,dR],hw,hkk⟩
 ·have nM:=e7 (P:=P) hk hp hf w
  cases r with
  |none=>
   obtain⟨hm,hkk⟩:=hr
   obtain⟨w',hs,ho⟩:=bC (P:=P) hw _ _ (dH.same hm)
   exact⟨w',_,by simp[Builtin.delete_,has,run_underlying ht,aS hw hm,dR,nM,hs],ho,hkk⟩
  |some x=>
   obtain⟨j,v⟩:=x
   obtain⟨H',hu,hkk⟩:=hr
   obtain⟨w',hs,ho⟩:=bC (P:=P) hw _ _ hu
   exact⟨w',_,by simp[Builtin.delete_,has,run_underlying ht,aS hw hu.mem,dR,nM,hs],ho,hkk⟩
theorem QM.run{x:Value}{k:Value→Hp→Prop}(h:QM H x k){w:World}(hw:Own g H w){t kt e:TypeId}(ht:P.underlying t=some (.map kt e)):
  ∃v w' H',(Instr.range t x).run P w=.ok v w'∧Own g H' w'∧k v H':=by
 rcases h with⟨rfl,hk⟩|⟨m,es,clock,rfl,hm,hk⟩
 ·refine⟨_,_,_,?_,hw.alloc _,hk _ hw.fresh⟩
  simp[Instr.range,run_underlying ht]
 ·refine⟨_,_,_,?_,hw.alloc _,hk _ hw.fresh⟩
  simp[Instr.range,run_underlying ht,aS hw hm]
theorem jS{w:World}(hw:Own g H w){b:Nat}{mo:Option Nat}{since last:Nat}{seen:Array Nat}(hm:(b,Obj.mapIter mo since seen last)∈H):(getObj b).run P w=.ok (.mapIter mo since seen last) w:=by
 have:=hw.has _ hm
 simp only at this
 simp[getObj,Sem.run,this]
theorem pB{w:World}(hw:Own g H w){b:Nat}{mo WH:Option Nat}{since last since' last':Nat}{seen seen':Array Nat}{H':Hp}(hu:dH b (.mapIter mo since seen last) (.mapIter WH since' seen' last') H H'):
  ∃w',(setObj b (.mapIter WH since' seen' last')).run P w=.ok () w'∧Own g H' w':=by
 have hm:=hw.has _ hu.mem
 simp only at hm
 refine⟨{w with heap:=w.heap.setIfInBounds b (.mapIter WH since' seen' last')},by simp[setObj,Sem.run,hm],?_⟩
 have hlt:=hw.lt hu.mem
 refine hw.bT hu rfl rfl rfl ?_ ?_
 ·simp only at hlt;simp[hlt]
 ·intro c hc;rw[Array.getElem?_setIfInBounds,if_neg (fun e=>hc (Eq.symm e))]
theorem FA.run{it:Value}{k:Value→Prop}(h:FA H it k){w:World}(hw:Own g H w):∃v,(Instr.entry it).run P w=.ok v w∧k v:=by
 obtain⟨b,m,since,seen,stamp,clock,es,e,rfl,hb,hs,hm,hf,hk⟩:=h
 refine⟨_,?_,hk⟩
 simp[Instr.entry,jS (P:=P) hw hb,hs,aS (P:=P) hw hm,hf]
theorem pC(n:Nat)(hn:0<n){w:World}:∃i w',(choose (.mapNext n)).run P w=.ok i w'∧i<n∧(w'=w∨w'=w.drew):=by
 by_cases h:n≤1
 ·exact⟨0,w,by simp[choose,Sem.run,Question.forced,h],hn,.inl rfl⟩
 ·exact⟨_,_,by simp only[choose,Sem.run,Question.forced,h,decide_false,Bool.false_eq_true,if_false];rfl,Nat.mod_lt _ hn,.inr rfl⟩
theorem PV.run{it:Value}{k:Value→Hp→Prop}(h:PV H it k){w:World}(hw:Own g H w){ty:TypeId}:
  ∃v w' H',(Instr.next it false ty).run P w=.ok v w'∧Own g H' w'∧k v H':=by
 obtain⟨b,mo,since,seen,last,rfl,hb,h⟩:=h
 have hgi:=jS (P:=P) hw hb
 cases mo with
 |none=>exact⟨_,w,H,by simp[Instr.next,hgi],hw,h⟩
 |some m=>
  obtain⟨es,clock,hm,HW,Sc,R5⟩:=h
  have hgm:=aS (P:=P) hw hm
  have Sf:(!seen.isEmpty&& !es.isEmpty&&es.all (fun e=>decide (e.born≥last)))=false:=by
   cases he:es.isEmpty
   ·have hne:es≠#[]:=by intro e;rw[e]at he;simp at he
    have:es.all (fun e=>decide (e.born≥last))=false:=by
     rw[←Bool.not_eq_true,Array.all_eq_true]
     intro aP
     have h0:0<es.size:=Array.size_pos_iff.2 hne
     have:=aP 0 h0
     have h2:=(HW es[0] (by simp)).2
     simp only[ge_iff_le,decide_eq_true_eq]at this
     omega
    rw[this];simp
   ·simp
  have hold:((es.filter fun e=> !seen.contains e.born).filter fun e=>decide (e.born<since))=es.filter fun e=> !seen.contains e.born:=by
   rw[Array.filter_eq_self]
   intro e he
   have:=(Array.mem_filter.1 he).1
   exact decide_eq_true (HW e (by simpa using this)).1
  have hnew:((es.filter fun e=> !seen.contains e.born).filter fun e=>decide (e.born≥since))=#[]:=by
   rw[Array.filter_eq_empty_iff]
   intro e he
   have:=(Array.mem_filter.1 he).1
   have:=(HW e (by simpa using this)).1
   simp only[ge_iff_le,decide_eq_true_eq];omega
  generalize hleft:(es.filter fun e=> !seen.contains e.born)=left at hold hnew
  have hrun:∀(rest:Sem Value),(Instr.next (.pointer (some ⟨b,0,none⟩)) false ty).run P w=((choose (.mapNext (((if left.isEmpty then#[none]else#[])++left.map some).size))).run P w).andThen fun i w=>(Sem.run P (match((if left.isEmpty then#[none]else#[])++left.map some)[i]? with
    |some (some e)=>do setObj b (.mapIter (some m) since (seen.push e.born) clock);pure (.tuple #[.bool true,e.key,e.val])
    |some none=>pure (.tuple #[.bool false])
    |none=>stuck "Next: no such candidate" :Sem Value) w):=by
   intro _
   simp only[Instr.next,Sem.run_bind,hgi,Result.andThen_ok,hgm,Sf,Bool.false_eq_true,if_false,hleft,hold,hnew,Array.append_empty,Sem.run_pure]
   rfl
  rw[hrun (pure undef)]
  by_cases O6:left=#[]
  ·subst O6
   simp only[Array.isEmpty_empty,if_true,Array.map_empty,Array.append_empty]
   refine⟨_,w,H,?_,hw,R5 fun e he=>?_⟩
   ·simp[choose,Sem.run,Question.forced]
   ·have:=Array.filter_eq_empty_iff.1 hleft e (by simpa using he)
    simpa using this
  ·have hne:left.isEmpty=false:=by simpa using O6
   have hpos:0<left.size:=Array.size_pos_iff.2 O6
   simp only[hne,Bool.false_eq_true,if_false,Array.empty_append,Array.size_map]
   obtain⟨i,w1,hc,hi,js⟩:=pC (P:=P) (w:=w) left.size hpos
   rw[hc]
   simp only[Result.andThen_ok]
   have fC:(left.map some)[i]? =some (some left[i]):=by simp[hi]
   simp only[fC]
   have hmem:left[i]∈es.filter fun e=> !seen.contains e.born:=by rw[hleft];exact Array.getElem_mem hi
   obtain⟨JD,Qz⟩:=Array.mem_filter.1 hmem
   obtain⟨H',hu,hk⟩:=Sc left[i] (by simpa using JD) (by simpa using Qz)
   have CD:Own g H w1:=by rcases js with rfl|rfl;exact hw;exact hw.drew
   obtain⟨w2,hs,CC⟩:=pB (P:=P) CD hu
   exact⟨_,w2,H',by simp[hs],CC,hk⟩
end
end Go.Sx
namespace Go.Sx
open Go
section
variable {P:Program} {g:Gh} {H:Hp} {K:Value→Hp→Prop} {KP:List PanicEntry→Hp→Prop}
def T2(x:Value):Option Value:=
 match x with
 | .pointer (some a)=>some (.pointer (some a))
 | .func (.func f) a b=>some (.func (.func f) a b)
 | .iface t v=>some (.iface t v)
 |_=>none
def Nil(x:Value)(k:Value→Prop):Prop:=∃v,T2 x=some v∧k v
def PMk(fn:Fn)(a b:List Value)(k:Value→Prop):Prop:=k (.func fn a.toArray b.toArray)
def Build(P:Program)(t:TypeId)(parts:List (Nat×Value))(k:Value→Prop):Prop:=∃v,(∀w,(Instr.build t parts.toArray).run P w=.ok v w)∧k v
def jP(P:Program)(g:Gh)(o:Oper)(ρ:Operand→Value)(H:Hp)(k:Value→Prop):Prop:=
 ∃v,(∀w,Own g H w→(execOp ρ o).run P w=.ok (.value v) w)∧k v
def cN(P:Program)(t:TypeId):Option Nat:=match P.info? t with|some i=>some i.size|none=>none
def dX(P:Program)(t:TypeId):Option Value:=match P.info? t with|some i=>i.zero|none=>none
def rj(P:Program)(t:TypeId):Option Nat:=match P.info? t with|some i=>some i.bytes|none=>none
def x4(P:Program)(g:Gh)(o:Oper)(ρ:Operand→Value)(H:Hp)(k:Value→Prop):Prop:=
 match o.op with
 | .move x=>k (ρ x)
 | .assign x=>k (ρ x)
 | .pick c a b=>aA (ρ c) (ρ a) (ρ b) k
 | .load t a=>
  match P.underlying t,cN P t with
  |some d,some n=>cond (cv d) (aC n H (ρ a) k) (Ld H (ρ a) k)
  |_,_=>False
 | .nilCheck x=>Nil (ρ x) k
 | .binOp op t x y _=>
  match P.underlying t with
  |some d=>match vk d with
   | .other=>jP P g o ρ H k
   |bk=>ae bk op (ρ x) (ρ y) k
  |none=>False
 | .unOp op _ x=>Un op (ρ x) k
 | .convert s d x=>
  match P.underlying s,P.underlying d with
  |some _,some (.int kd)=>aW kd (ρ x) k
  |some (.slice e),some .string=>match P.underlying e with
   |some (.int .u8)=>iM H (ρ x) k
   |_=>jP P g o ρ H k
  |_,_=>jP P g o ρ H k
 | .index t x i=>
  match P.underlying t with
  |some .string=>Nf (ρ x) (ρ i) k
  |_=>jP P g o ρ H k
 | .fieldAddr s x f=>
  match P.underlying s with
  |some (.struct fs)=>match fs[f]? with
   |some fl=>match cN P fl.type with
    |some (_+1)=>aa fl.offset (ρ x) k
    |_=>False
   |none=>False
  |_=>False
 | .field s x f=>
  match P.underlying s with
  |some (.struct fs)=>match fs[f]? with
   |some fl=>match P.underlying fl.type,cN P fl.type with
    |some d,some n=>cond (cv d) (Mc fl.offset n (ρ x) k) (JU fl.offset (ρ x) k)
    |_,_=>False
   |none=>False
  |_=>False
 | .indexAddr t x i=>
  match P.underlying t with
  |some (.slice e)=>match cN P e with
   |some n=>ai n (ρ x) (ρ i) k
   |none=>False
  |some (.array len e)=>match cN P e with
   |some n=>gm len n (ρ x) (ρ i) k
   |none=>False
  |_=>False
 | .slice t x lo hi none=>
  match P.underlying t with
  |some (.slice e)=>match cN P e with
   |some n=>fG n (ρ x) (lo.map ρ) (hi.map ρ) k
   |none=>False
  |_=>jP P g o ρ H k
 | .extract t i=>Ext i (ρ t) k
 | .lookup t m key ok=>
  match P.underlying t with
  |some (.map kt e)=>match P.underlying kt,dX P e with
   |some kd,some z=>cond (plainKey kd) (rI kd z ok H (ρ m) (ρ key) k) (cond (cv kd) (iA P kt z ok H (ρ m) (ρ key) k) (jP P g o ρ H k))
   |_,_=>False
  |_=>False
 | .makeFunc fn a b=>PMk fn (a.toList.map ρ) (b.toList.map ρ) k
 | .build t parts=>Build P t (parts.toList.map fun p=>(p.1,ρ p.2)) k
 | .makeInterface t x=>
  match P.underlying t with
  |some (.interface _)=>False
  |some _=>k (.iface t (ρ x))
  |none=>False
 | .call c=>
  match c.callee with
  | .builtin .len=>
   match c.args.toList,c.argTypes.toList with
   | [x],[t]=>match P.underlying t with
    |some (.slice _)=>bA (ρ x) k
    |some (.map _ _)=>xM H (ρ x) k
    |some .string=>PY (ρ x) k
    |_=>jP P g o ρ H k
   |_,_=>False
  | .builtin .max=>match c.args.toList,c.argTypes.toList with
   | [x,y],[t,_]=>match P.underlying t with
    |some (.int _)=>PX (ρ x) (ρ y) k
    |_=>jP P g o ρ H k
   |_,_=>jP P g o ρ H k
  | .builtin .min=>match c.args.toList,c.argTypes.toList with
   | [x,y],[t,_]=>match P.underlying t with
    |some (.int _)=>PW (ρ x) (ρ y) k
    |_=>jP P g o ρ H k
   |_,_=>jP P g o ρ H k
  | .builtin _=>jP P g o ρ H k
  |_=>False
 |_=>jP P g o ρ H k
theorem mapList{α β:Type}(f:α→β)(a:Array α):(a.toList.map f).toArray=a.map f:=by rw[←Array.toList_map,Array.toArray_toList]
theorem TM{α:Type}{a:Array α}{x:α}(h:a.toList=[x]):a=#[x]:=by cases a;simp_all
theorem xH{α:Type}{a:Array α}{x y:α}(h:a.toList=[x,y]):a=#[x,y]:=by cases a;simp_all
theorem Ld.fix{p:Value}{k:Value→Prop}(h:Ld H p k):∃v,k v∧Ld H p (· =v):=by
 obtain⟨b,off,c,T,fz,v,h1,h2,h3,hk⟩:=h;exact⟨v,hk,b,off,c,T,fz,v,h1,h2,h3,rfl⟩
theorem aC.fix{n:Nat}{p:Value}{k:Value→Prop}(h:aC n H p k):∃v,k v∧aC n H p (· =v):=by
 obtain⟨b,off,c,T,fz,h1,h2,h3,hk⟩:=h;exact⟨_,hk,b,off,c,T,fz,h1,h2,h3,rfl⟩
theorem rI.fix{kd:TypeDesc}{zero:Value}{ok:Bool}{m key:Value}{k:Value→Prop}(h:rI kd zero ok H m key k):∃v,k v∧rI kd zero ok H m key (· =v):=by
 obtain⟨es,r,h1,h2,hk⟩:=h;exact⟨_,hk,es,r,h1,h2,rfl⟩
theorem xM.fix{x:Value}{k:Value→Prop}(h:xM H x k):∃v,k v∧xM H x (· =v):=by
 obtain⟨m,h1,⟨h2,hk⟩|⟨b,es,clock,h2,h3,hk⟩⟩:=h
 ·exact⟨_,hk,m,h1,.inl ⟨h2,rfl⟩⟩
 ·exact⟨_,hk,m,h1,.inr ⟨b,es,clock,h2,h3,rfl⟩⟩
theorem iA.fix{kt:TypeId}{zero:Value}{ok:Bool}{m key:Value}{k:Value→Prop}(h:iA P kt zero ok H m key k):∃v,k v∧iA P kt zero ok H m key (· =v):=by
 obtain⟨es,r,h1,h2,h3,hk⟩:=h;exact⟨_,hk,es,r,h1,h2,h3,rfl⟩
theorem zk{F:Value→ByteArray→Sem (ForInStep ByteArray)}(hF:∀(b:UInt8) s,F (.int .u8 b.toNat) s=pure (.yield (s.push b))){l:List UInt8}(s:ByteArray)(w:World):
  (forIn (l.map fun b=>Value.int .u8 b.toNat) s F).run P w=.ok (⟨s.data++l.toArray⟩:ByteArray) w:=by
 induction l generalizing s with
 |nil=>simp
 |cons b r ih=>
  simp only[List.map_cons,List.forIn_cons,hF,Sem.run_bind,Sem.run_pure,Result.andThen_ok]
  rw[ih]
  congr 1
  simp[ByteArray.push]
theorem iM.run{x:Value}{k:Value→Prop}(h:iM H x k){w:World}(hw:Own g H w):∃v,(Conv.bytesToString x).run P w=.ok v w∧k v:=by
 obtain⟨base,n,c,bs,rfl,hc,hn,hk⟩:=h
 refine⟨_,?_,hk⟩
 cases base with
 |none=>
  simp only[Cells]at hc
  have:bs=[]:=by simpa using congrArg Array.size hc
  subst this;rfl
 |some a=>
  have:=Cells.run (P:=P) (size:=1) (cap:=c) hw (by rw[Nat.mul_one];exact hc)
  simp only[Builtin.firstCells,Nat.mul_one]at this
  simp only[Conv.bytesToString,Sem.run_bind,this,Result.andThen_ok]
  rw[List.forIn_toArray,zk (P:=P) (l:=bs) (fun b s=>by simp)]
  have e:ByteArray.empty.data=#[]:=rfl
  simp[e]
theorem iM.fix{x:Value}{k:Value→Prop}(h:iM H x k):∃v,k v∧iM H x (· =v):=by
 obtain⟨base,n,c,bs,h1,h2,h3,hk⟩:=h;exact⟨_,hk,base,n,c,bs,h1,h2,h3,rfl⟩
def Reads(P:Program)(g:Gh)(o:Oper)(ρ:Operand→Value)(H:Hp)(k:Value→Prop):Prop:=
 ∃v,k v∧∀w,Own g H w→(execOp ρ o).run P w=.ok (.value v) w
theorem Reads.mk{o:Oper}{ρ:Operand→Value}{k:Value→Prop}{s:Sem Value}(he:execOp ρ o=(do pure (.value (←s))))(h:∃v,k v∧∀w,Own g H w→s.run P w=.ok v w):Reads P g o ρ H k:=by
 obtain⟨v,hk,hr⟩:=h
 refine⟨v,hk,fun w hw=>?_⟩
 rw[he]
 simp only[Sem.run_bind,hr w hw,Result.andThen_ok,Sem.run_pure]
theorem jP.reads{o:Oper}{ρ:Operand→Value}{k:Value→Prop}(h:jP P g o ρ H k):Reads P g o ρ H k:=let ⟨v,h1,h2⟩:=h;⟨v,h2,h1⟩
theorem Qm{s:Sem Value}{k:Value→Prop}{C:(Value→Prop)→Prop}(XM:∃v,k v∧C (· =v))(hrun:∀(k:Value→Prop),C k→∀w,Own g H w→∃v,s.run P w=.ok v w∧k v):
  ∃v,k v∧∀w,Own g H w→s.run P w=.ok v w:=by
 obtain⟨v,hk,hc⟩:=XM
 refine⟨v,hk,fun w hw=>?_⟩
 obtain⟨u,hr,rfl⟩:=hrun _ hc w hw
 exact hr
theorem aZ{t:TypeId}{n:Nat}(h:cN P t=some n):∃i,P.info? t=some i∧i.size=n:=by
 unfold cN at h
 split at h
 ·rename_i i hi;exact⟨i,hi,by simpa using h⟩
 ·simp at h
theorem cj{t:TypeId}{z:Value}(h:dX P t=some z):∃i,P.info? t=some i∧i.zero=some z:=by
 unfold dX at h
 split at h
 ·rename_i i hi;exact⟨i,hi,by simpa using h⟩
 ·simp at h
theorem iY{o:Oper}{ρ:Operand→Value}{k:Value→Prop}(h:x4 P g o ρ H k):Reads P g o ρ H k:=by
 obtain⟨dst,op,type,pos,after,guard⟩:=o
 cases op<;>simp only[x4]at h
 case move x=>exact⟨_,h,fun w _=>rfl⟩
 case assign x=>exact⟨_,h,fun w _=>rfl⟩
 case pick c a b=>
  obtain⟨t,hc,hk⟩:=h
  refine⟨_,hk,fun w _=>?_⟩
  cases t<;>simp[execOp,hc,asBool]
 case load t a=>
  split at h
  ·rename_i d n hd hn
   obtain⟨i,hi,hin⟩:=aZ hn
   refine Reads.mk (s:=Instr.loadAt t (ρ a)) rfl ?_
   cases ha:cv d<;>simp only[ha,cond_true,cond_false]at h
   ·exact Qm h.fix fun k hk w hw=>hk.run hw hd ha
   ·exact Qm h.fix fun k hk w hw=>hk.run hw hd ha hi hin
  ·exact h.elim
 case nilCheck x=>
  obtain⟨v,hv,hk⟩:=h
  refine⟨v,hk,fun w _=>?_⟩
  unfold T2 at hv
  simp only[execOp]
  split at hv<;>simp only[Option.some.injEq,reduceCtorEq]at hv<;>subst hv<;>simp_all
 case binOp op t x y yt=>
  split at h
  ·rename_i d hd
   split at h
   ·exact h.reads
   ·rename_i UT
    refine Reads.mk (s:=do eqGuard op t x y (ρ x) (ρ y);binOp op t (ρ x) (ρ y)) rfl ?_
    obtain⟨v,hv,hk⟩:=h
    exact⟨v,hk,fun w _=>by
     obtain⟨u,hr,rfl⟩:=ae.run (P:=P) (k:=(· =v)) ⟨v,hv,rfl⟩ w (ox:=x) (oy:=y) hd rfl
     exact hr⟩
  ·exact h.elim
 case unOp op t x=>
  obtain⟨v,hv,hk⟩:=h
  refine Reads.mk (s:=Op.unary op (ρ x)) rfl ⟨v,hk,fun w _=>?_⟩
  obtain⟨u,hr,rfl⟩:=Un.run (P:=P) (k:=(· =v)) ⟨v,hv,rfl⟩ w
  exact hr
 case convert s d x=>
  split at h
  ·rename_i ds kd hs hd
   obtain⟨j,n,hx,hk⟩:=h
   refine Reads.mk (s:=Go.convert s d (ρ x)) rfl ⟨_,hk,fun w _=>?_⟩
   obtain⟨u,hr,rfl⟩:=aW.run (P:=P) (kd:=kd) (k:=(· =_)) ⟨j,n,hx,rfl⟩ w hs hd rfl
   exact hr
  ·rename_i e hs hd
   split at h
   ·rename_i he
    refine Reads.mk (s:=Go.convert s d (ρ x)) rfl ?_
    have:∀w,(Go.convert s d (ρ x)).run P w=(Conv.bytesToString (ρ x)).run P w:=fun w=>by
     obtain⟨base,n,c,bs,hx,_⟩:=h
     simp only[Go.convert,Sem.run_bind,run_underlying hs,run_underlying hd,Result.andThen_ok,hx,run_underlying he]
    simp only[this]
    exact Qm h.fix fun k hk w hw=>hk.run hw
   ·exact h.reads
  ·exact h.reads
 case index t x i=>
  split at h
  ·rename_i ht
   obtain⟨s,kd,j,b,hx,hi,h0,hb,hk⟩:=h
   refine Reads.mk (s:=Instr.index t (ρ x) (ρ i)) rfl ⟨_,hk,fun w _=>?_⟩
   simp[Instr.index,run_underlying ht,hx,hi,asIntOf,h0,hb]
  ·exact h.reads
 case fieldAddr s x f=>
  split at h<;>try exact h.elim
  rename_i fs hs
  split at h<;>try exact h.elim
  rename_i fl hf
  split at h<;>try exact h.elim
  rename_i m hm
  obtain⟨i,hi,hin⟩:=aZ hm
  obtain⟨b,o,hx,hk⟩:=h
  refine Reads.mk (s:=Instr.fieldAt s (ρ x) f) rfl ⟨_,hk,fun w _=>?_⟩
  obtain⟨u,hr,rfl⟩:=aa.run (P:=P) (k:=(· =_)) ⟨b,o,hx,rfl⟩ w hs hf hi (by omega) rfl
  exact hr
 case field s x f=>
  split at h<;>try exact h.elim
  rename_i fs hs
  split at h<;>try exact h.elim
  rename_i fl hf
  split at h<;>try exact h.elim
  rename_i d n hd hn
  obtain⟨i,hi,hin⟩:=aZ hn
  refine Reads.mk (s:=Instr.field s (ρ x) f) rfl ?_
  cases ha:cv d<;>simp only[ha,cond_true,cond_false]at h
  ·obtain⟨cs,v,hx,hv,hk⟩:=h
   refine⟨v,hk,fun w _=>?_⟩
   obtain⟨u,hr,rfl⟩:=JU.run (P:=P) (k:=(· =v)) ⟨cs,v,hx,hv,rfl⟩ w hs hf hd ha rfl
   exact hr
  ·obtain⟨cs,hx,hk⟩:=h
   refine⟨_,hk,fun w _=>?_⟩
   obtain⟨u,hr,rfl⟩:=Mc.run (P:=P) (k:=(· =_)) ⟨cs,hx,rfl⟩ w hs hf hd ha hi hin rfl
   exact hr
 case indexAddr t x ix=>
  refine Reads.mk (s:=Instr.indexAt t (ρ x) (ρ ix)) rfl ?_
  split at h
  ·rename_i e ht
   split at h<;>try exact h.elim
   rename_i n hn
   obtain⟨i,hi,hin⟩:=aZ hn
   obtain⟨b,o,n',c,kd,j,hx,Xz,h0,h1,hk⟩:=h
   refine⟨_,hk,fun w _=>?_⟩
   obtain⟨u,hr,rfl⟩:=ai.run (P:=P) (k:=(· =_)) ⟨b,o,n',c,kd,j,hx,Xz,h0,h1,rfl⟩ w ht hi hin
   exact hr
  ·rename_i len e ht
   split at h<;>try exact h.elim
   rename_i n hn
   obtain⟨i,hi,hin⟩:=aZ hn
   obtain⟨b,o,kd,j,hx,Xz,h0,h1,hk⟩:=h
   refine⟨_,hk,fun w _=>?_⟩
   obtain⟨u,hr,rfl⟩:=gm.run (P:=P) (k:=(· =_)) ⟨b,o,kd,j,hx,Xz,h0,h1,rfl⟩ w ht hi hin
   exact hr
  ·exact h.elim
 case slice t x lo hi mx=>
  cases mx with
  |some m=>simp only at h;exact h.reads
  |none=>
   simp only at h
   split at h
   ·rename_i e ht
    split at h<;>try exact h.elim
    rename_i n hn
    obtain⟨i,hi',hin⟩:=aZ hn
    obtain⟨a,n',c,l,hh,hx,hl,ni,h0,h1,h2,hk⟩:=h
    refine Reads.mk (s:=Instr.sliceAt t (ρ x) (lo.map ρ) (hi.map ρ) none) rfl ⟨_,hk,fun w _=>?_⟩
    obtain⟨u,hr,rfl⟩:=fG.run (P:=P) (k:=(· =_)) ⟨a,n',c,l,hh,hx,hl,ni,h0,h1,h2,rfl⟩ w ht hi' hin
    exact hr
   ·exact h.reads
 case extract t i=>
  obtain⟨vs,v,hx,hv,hk⟩:=h
  refine Reads.mk (s:=Instr.extract (ρ t) i) rfl ⟨v,hk,fun w _=>?_⟩
  obtain⟨u,hr,rfl⟩:=Ext.run (P:=P) (k:=(· =v)) ⟨vs,v,hx,hv,rfl⟩ w
  exact hr
 case lookup t m key ok=>
  split at h<;>try exact h.elim
  rename_i kt e ht
  split at h<;>try exact h.elim
  rename_i kd z CG hz
  obtain⟨i,hi,sB⟩:=cj hz
  cases hp:plainKey kd<;>simp only[hp,cond_true,cond_false]at h
  ·cases nh:cv kd<;>simp only[nh,cond_true,cond_false]at h
   ·exact h.reads
   ·exact Reads.mk (s:=Instr.lookup t (ρ m) (ρ key) ok) rfl (Qm h.fix fun k hk w hw=>hk.run hw ht CG nh hi sB)
  ·exact Reads.mk (s:=Instr.lookup t (ρ m) (ρ key) ok) rfl (Qm h.fix fun k hk w hw=>hk.run hw ht CG hp hi sB)
 case makeFunc fn a b=>
  refine⟨_,h,fun w _=>?_⟩
  simp[execOp,Instr.makeFunc,mapList]
 case build t parts=>
  obtain⟨v,hr,hk⟩:=h
  refine Reads.mk (s:=Instr.build t (parts.map fun(i,x)=>(i,ρ x))) rfl ⟨v,hk,fun w _=>?_⟩
  have:=hr w
  rw[mapList (fun p:Nat×Operand=>(p.1,ρ p.2)) parts]at this
  exact this
 case makeInterface t x=>
  split at h
  ·exact h.elim
  ·rename_i d OO hd
   refine Reads.mk (s:=Instr.makeInterface t (ρ x)) rfl ⟨_,h,fun w _=>?_⟩
   simp only[Instr.makeInterface,Sem.run_bind,run_underlying hd,Result.andThen_ok]
   cases d<;>first|rfl|exact absurd hd (OO _)
  ·exact h.elim
 case call c=>
  obtain⟨callee,args,argTypes⟩:=c
  cases callee with
  |value f=>simp only at h
  |invoke r m=>simp only at h
  |builtin b=>
   cases b<;>simp only at h<;>try exact h.reads
   case max=>
    split at h<;>try exact h.reads
    rename_i x y t t' hx ht
    split at h<;>try exact h.reads
    have hx:=xH hx
    have ht:=xH ht
    subst hx;subst ht
    obtain⟨kd,a,b,h1,h2,hk⟩:=h
    refine Reads.mk (s:=Builtin.max_ #[t,t'] type #[ρ x,ρ y]) (by simp[execOp,resolve,invoke,builtin,bind,Sem.bind];rfl) ⟨_,hk,fun w _=>?_⟩
    simp[Builtin.max_,Builtin.max2,h1,h2]
   case min=>
    split at h<;>try exact h.reads
    rename_i x y t t' hx ht
    split at h<;>try exact h.reads
    have hx:=xH hx
    have ht:=xH ht
    subst hx;subst ht
    obtain⟨kd,a,b,h1,h2,hk⟩:=h
    refine Reads.mk (s:=Builtin.min_ #[t,t'] type #[ρ x,ρ y]) (by simp[execOp,resolve,invoke,builtin,bind,Sem.bind];rfl) ⟨_,hk,fun w _=>?_⟩
    simp[Builtin.min_,Builtin.min2,h1,h2]
   split at h<;>try exact h.elim
   rename_i x t hx ht
   have hx:=TM hx
   have ht:=TM ht
   subst hx;subst ht
   split at h
   ·rename_i e hd
    refine Reads.mk (s:=Builtin.len_ #[t] type #[ρ x]) (by simp[execOp,resolve,invoke,builtin,bind,Sem.bind];rfl) ?_
    obtain⟨a,n,c,hx,hk⟩:=h
    refine⟨_,hk,fun w _=>?_⟩
    obtain⟨u,hr,rfl⟩:=bA.run (P:=P) (k:=(· =_)) ⟨a,n,c,hx,rfl⟩ w (ty:=type) hd
    exact hr
   ·rename_i e e' hd
    refine Reads.mk (s:=Builtin.len_ #[t] type #[ρ x]) (by simp[execOp,resolve,invoke,builtin,bind,Sem.bind];rfl) ?_
    exact Qm h.fix fun k hk w hw=>hk.run hw hd
   ·rename_i hd
    refine Reads.mk (s:=Builtin.len_ #[t] type #[ρ x]) (by simp[execOp,resolve,invoke,builtin,bind,Sem.bind];rfl) ?_
    obtain⟨s,hx,hk⟩:=h
    exact⟨_,hk,fun w _=>by simp[Builtin.len_,run_underlying hd,hx,goInt]⟩
   ·exact h.reads
 all_goals exact h.reads
def valOf(o:Oper)(ρ:Operand→Value)(v:Value):Prop:=
 match o.op with
 | .move x=>v=ρ x
 | .assign x=>v=ρ x
 | .pick c a b=>∀t,ρ c=.bool t→v=cond t (ρ a) (ρ b)
 |_=>True
theorem lH{o:Oper}{ρ:Operand→Value}{k:Value→Prop}(h:x4 P g o ρ H k):∃v,k v∧(∀w,Own g H w→(execOp ρ o).run P w=.ok (.value v) w)∧valOf o ρ v:=by
 obtain⟨dst,op,type,pos,after,guard⟩:=o
 cases op
 case move x=>exact⟨_,h,fun w _=>rfl,rfl⟩
 case assign x=>exact⟨_,h,fun w _=>rfl,rfl⟩
 case pick c a b=>
  obtain⟨t,hc,hk⟩:=h
  refine⟨_,hk,fun w _=>?_,fun t' ht'=>?_⟩
  ·cases t<;>simp[execOp,hc,asBool]
  ·rw[hc]at ht';simp only[Value.bool.injEq]at ht';subst ht';rfl
 all_goals
  obtain⟨v,hk,hr⟩:=iY h
  exact⟨v,hk,hr,trivial⟩
end
end Go.Sx
namespace Go.Sx
open Go
section
variable {P:Program} {g:Gh} {H:Hp} {K:Value→Hp→Prop} {KP:List PanicEntry→Hp→Prop}
def au(P:Program)(t len:Nat)(parts:List (Nat×Value))(H:Hp)(k:Value→Hp→Prop):Prop:=
 ∃cs,(∃e n z,P.underlying t=some (.slice e)∧cN P e=some n∧dX P e=some z∧len*n≤2^24∧
   Instr.fill (fun i=>some (i*n,n)) ((Array.range (len*n)).map (z.cells[· %z.cells.size]!)) parts=some cs∧
   bg H (.cells cs e (0,0)) fun b H'=>k (.slice (some ⟨b,0,none⟩) len len) H')
def Jx(P:Program)(g:Gh)(o:Oper)(ρ:Operand→Value)(H:Hp)(K:Value→Hp→Prop)(KP:List PanicEntry→Hp→Prop):Prop:=
 match o.op with
 | .alloc t=>match dX P t with
  |some z=>bg H (.cells z.cells t (0,0)) fun b H'=>K (.pointer (some ⟨b,0,none⟩)) H'
  |none=>False
 | .box t x=>bg H (.cells (ρ x).cells t (0,0)) fun b H'=>K (.pointer (some ⟨b,0,none⟩)) H'
 | .store t a x=>match cN P t with
  |some n=>St n H (ρ a) (ρ x) fun H'=>K undef H'
  |none=>False
 | .buildSlice t len parts=>au P t len (parts.toList.map fun p=>(p.1,ρ p.2)) H K
 | .makeMap _ none=>n8 H K
 | .makeSlice t l c=>match P.underlying t with
  |some (.slice e)=>match cN P e,rj P e,dX P e with
   |some n,some b,some z=>cW e n b z H (ρ l) (ρ c) K
   |_,_,_=>False
  |_=>False
 | .mapUpdate t m key x=>match P.underlying t with
  |some (.map kt _)=>match P.underlying kt with
   |some kd=>cond (plainKey kd) (iK kd H (ρ m) (ρ key) (ρ x) fun H'=>K undef H') (cond (cv kd) (iz P kt H (ρ m) (ρ key) (ρ x) fun H'=>K undef H') (mA P g o ρ H K KP))
   |none=>False
  |_=>False
 | .range t x=>match P.underlying t with
  |some (.map _ _)=>QM H (ρ x) K
  |_=>mA P g o ρ H K KP
 | .next it false=>PV H (ρ it) K
 | .entry it=>FA H (ρ it) fun v=>K v H
 | .call c=>
  match c.callee with
  | .value (.func f)=>cond (bh P f) (ag P g f (c.args.toList.map ρ).toArray H K KP) (mA P g o ρ H K KP)
  | .value f=>cg P g (ρ f) (c.args.toList.map ρ).toArray H K KP
  | .builtin .append=>
   match c.args.toList,c.argTypes.toList with
   | [s,x],[t,t']=>match P.underlying t,P.underlying t' with
    |some (.slice e),some (.slice _)=>match cN P e,rj P e,dX P e with
     |some n,some b,some z=>App P e n b z H (ρ s) (ρ x) K
     |_,_,_=>False
    |_,_=>mA P g o ρ H K KP
   |_,_=>False
  | .builtin .delete=>
   match c.args.toList,c.argTypes.toList with
   | [m,key],[t,_]=>match P.underlying t with
    |some (.map kt _)=>match P.underlying kt with
     |some kd=>cond (plainKey kd) (rH kd H (ρ m) (ρ key) fun H'=>K (.tuple #[]) H') (cond (cv kd) (n9 P kt H (ρ m) (ρ key) fun H'=>K (.tuple #[]) H') (mA P g o ρ H K KP))
     |none=>False
    |_=>False
   |_,_=>mA P g o ρ H K KP
  |_=>mA P g o ρ H K KP
 |_=>mA P g o ρ H K KP
theorem kZ{t:TypeId}{n:Nat}(h:rj P t=some n):∃i,P.info? t=some i∧i.bytes=n:=by
 unfold rj at h
 split at h
 ·rename_i i hi;exact⟨i,hi,by simpa using h⟩
 ·simp at h
theorem mA.ofValue{o:Oper}{ρ:Operand→Value}{s:Sem Value}(he:execOp ρ o=(do pure (.value (←s))))(h:∀w,Own g H w→∃v w' H',s.run P w=.ok v w'∧Own g H' w'∧K v H'):mA P g o ρ H K KP:=by
 intro w hw
 obtain⟨v,w',H',hr,ho,hk⟩:=h w hw
 rw[he]
 simp only[Sem.run_bind,hr,Result.andThen_ok,Sem.run_pure]
 exact⟨H',ho,hk⟩
theorem mA.uF{o:Oper}{ρ:Operand→Value}{s:Sem Unit}(he:execOp ρ o=(do s;pure .skip))(h:∀w,Own g H w→∃w' H',s.run P w=.ok () w'∧Own g H' w'∧K undef H'):mA P g o ρ H K KP:=by
 intro w hw
 obtain⟨w',H',hr,ho,hk⟩:=h w hw
 rw[he]
 simp only[Sem.run_bind,hr,Result.andThen_ok,Sem.run_pure]
 exact⟨H',ho,hk⟩
theorem dU{f:FuncId}(h:bh P f=true)(args:Array Value)(w:World):(callFunc f args).run P w=.ok (.enter f args) w:=by
 unfold bh at h
 split at h
 ·simp at h
 ·rename_i fn hf
  simp only[Bool.and_eq_true,Bool.not_eq_true']at h
  obtain⟨h1,h2⟩:=h
  have h3:fn.body.isNone=false:=by cases hb:fn.body<;>simp_all
  simp only[callFunc,Sem.run_bind,run_program,Result.andThen_ok,hf,show(fn.name== "runtime.NumGoroutine")=false from h1,h3,Bool.false_eq_true,if_false]
  rfl
theorem cg.op{o:Oper}{c:Call}{ρ:Operand→Value}{x:Operand}(ho:o.op=.call c)(hc:c.callee=.value x)(h:cg P g (ρ x) (c.args.toList.map ρ).toArray H K KP):mA P g o ρ H K KP:=by
 obtain⟨f,first,captured,hf,fx,MM⟩:=h
 rw[mapList]at MM
 intro w hw
 have hr:(execOp ρ o).run P w=.ok (.enter f (first++c.args.map ρ++captured)) w:=by
  simp only[execOp,ho,resolve,hc,Deferred.ofValue,hf,invoke]
  show(callFunc f (first++c.args.map ρ++captured)).run P w=_
  exact dU fx _ w
 rw[hr]
 exact MM w hw
theorem qy{o:Oper}{ρ:Operand→Value}(hρ:∀f,ρ (.func f)=.func (.func f) #[] #[])(h:Jx P g o ρ H K KP):mA P g o ρ H K KP:=by
 unfold Jx at h
 split at h
 case h_1 t hop=>
  split at h
  ·rename_i z hz
   obtain⟨i,hi,sB⟩:=cj hz
   refine mA.ofValue (s:=Instr.alloc t true (.tuple #[])) (by simp only[execOp,hop]) fun w hw=>⟨_,_,_,?_,hw.alloc _,h _ hw.fresh⟩
   simp[Instr.alloc,di hi sB,newVar,newRow]
  ·exact h.elim
 case h_2 t x hop=>
  refine mA.ofValue (s:=Instr.box t (ρ x)) (by simp only[execOp,hop]) fun w hw=>⟨_,_,_,?_,hw.alloc _,h _ hw.fresh⟩
  simp[Instr.box,newVar,newRow]
 case h_3 t a x hop=>
  split at h
  ·rename_i n hn
   obtain⟨i,hi,hin⟩:=aZ hn
   exact mA.uF (s:=Instr.storeAt t (ρ a) (ρ x)) (by simp only[execOp,hop]) fun w hw=>h.run hw hi hin
  ·exact h.elim
 case h_4 t len parts hop=>
  obtain⟨cs,e,n,z,ht,hn,hz,hl,hf,hk⟩:=h
  obtain⟨i,hi,hin⟩:=aZ hn
  obtain⟨i',hi',sB⟩:=cj hz
  have:i'=i:=Option.some.inj (hi'.symm.trans hi)
  subst this
  subst hin
  refine mA.ofValue (s:=Instr.buildSlice t len (parts.map fun(i,x)=>(i,ρ x))) (by simp only[execOp,hop]) fun w hw=>⟨_,_,_,?_,hw.alloc _,hk _ hw.fresh⟩
  have hl':¬(len*i'.size>2^24):=by omega
  have Em:(parts.map fun(x:Nat×Operand)=>(x.1,ρ x.2)).toList=parts.toList.map fun p=>(p.1,ρ p.2):=by rw[Array.toList_map]
  by_cases h0:len*i'.size=0
  ·simp only[Instr.buildSlice,Sem.run_bind,run_underlying ht,Result.andThen_ok,run_sizeOf hi,hl',if_false,h0,if_true,Sem.run_pure]
   rw[h0]at hf
   have OK:Array.range 0=#[]:=rfl
   simp only[OK,Array.map_empty,List.map_toArray,List.map_nil]at hf⊢
   rw[Em,hf]
   simp[newRow]
  ·simp only[Instr.buildSlice,Sem.run_bind,run_underlying ht,Result.andThen_ok,run_sizeOf hi,hl',if_false,h0,di hi sB,Sem.run_pure]
   simp[hf,newRow]
 case h_5 t hop=>
  refine mA.ofValue (s:=Instr.makeMap t none) (by simp only[execOp,hop];rfl) fun w hw=>⟨_,_,_,?_,hw.alloc _,h _ hw.fresh⟩
  simp[Instr.makeMap]
 case h_6 t l c hop=>
  split at h<;>try exact h.elim
  rename_i e ht
  split at h<;>try exact h.elim
  rename_i n b z hn hb hz
  obtain⟨i,hi,hin⟩:=aZ hn
  obtain⟨i',hi',sB⟩:=cj hz
  obtain⟨i2,CJ,qM⟩:=kZ hb
  have e1:i'=i:=Option.some.inj (hi'.symm.trans hi)
  have e2:i2=i:=Option.some.inj (CJ.symm.trans hi)
  subst e1;subst e2
  exact mA.ofValue (s:=Instr.makeSlice t (ρ l) (ρ c)) (by simp only[execOp,hop]) fun w hw=>h.run hw ht hi sB hin qM
 case h_7 t m key x hop=>
  split at h<;>try exact h.elim
  rename_i kt e ht
  split at h<;>try exact h.elim
  rename_i kd CG
  cases hp:plainKey kd<;>simp only[hp,cond_true,cond_false]at h
  ·cases nh:cv kd<;>simp only[nh,cond_true,cond_false]at h
   ·exact h
   ·exact mA.uF (s:=Instr.mapUpdate t (ρ m) (ρ key) (ρ x)) (by simp only[execOp,hop]) fun w hw=>h.run hw ht CG nh
  ·exact mA.uF (s:=Instr.mapUpdate t (ρ m) (ρ key) (ρ x)) (by simp only[execOp,hop]) fun w hw=>h.run hw ht CG hp
 case h_8 t x hop=>
  split at h
  ·rename_i kt e ht
   exact mA.ofValue (s:=Instr.range t (ρ x)) (by simp only[execOp,hop]) fun w hw=>h.run hw ht
  ·exact h
 case h_9 it hop=>
  exact mA.ofValue (s:=Instr.next (ρ it) false o.type) (by simp only[execOp,hop]) fun w hw=>h.run hw
 case h_10 it hop=>
  exact mA.ofValue (s:=Instr.entry (ρ it)) (by simp only[execOp,hop]) fun w hw=>let ⟨v,hr,hk⟩:=h.run hw;⟨v,w,H,hr,hw,hk⟩
 case h_11 c hop=>
  split at h
  ·rename_i f hc
   cases fx:bh P f<;>simp only[fx,cond_true,cond_false]at h
   ·exact h
   ·rw[mapList]at h
    intro w hw
    have hr:(execOp ρ o).run P w=.ok (.enter f (c.args.map ρ)) w:=by
     simp only[execOp,hop,resolve,hc,Deferred.ofValue,hρ,invoke]
     show(callFunc f ((#[]++c.args.map ρ)++ #[])).run P w=_
     rw[Array.empty_append,Array.append_empty]
     exact dU fx _ w
    rw[hr]
    exact h w hw
  ·rename_i x _ hc
   exact cg.op hop hc h
  ·rename_i hc
   split at h<;>try exact h.elim
   rename_i s x t t' hx ht
   have hx:=xH hx
   have ht:=xH ht
   split at h
   ·rename_i e e' hd cI
    split at h<;>try exact h.elim
    rename_i n b z hn hb hz
    obtain⟨i,hi,hin⟩:=aZ hn
    obtain⟨i',hi',sB⟩:=cj hz
    obtain⟨i2,CJ,qM⟩:=kZ hb
    have e1:i'=i:=Option.some.inj (hi'.symm.trans hi)
    have e2:i2=i:=Option.some.inj (CJ.symm.trans hi)
    subst e1;subst e2
    refine mA.ofValue (s:=Builtin.append_ #[t,t'] o.type #[ρ s,ρ x]) ?_ fun w hw=>h.run hw hd ⟨_,cI⟩ hi sB hin qM
    simp only[execOp,hop,resolve,hc,hx,ht,invoke,builtin]
    simp[bind,Sem.bind];rfl
   ·exact h
  ·rename_i hc
   split at h
   ·rename_i m key t t' hx ht
    have hx:=xH hx
    have ht:=xH ht
    split at h<;>try exact h.elim
    rename_i kt e hd
    split at h<;>try exact h.elim
    rename_i kd CG
    cases hp:plainKey kd<;>simp only[hp,cond_true,cond_false]at h
    ·cases nh:cv kd<;>simp only[nh,cond_true,cond_false]at h
     ·exact h
     ·refine mA.ofValue (s:=Builtin.delete_ #[t,t'] o.type #[ρ m,ρ key]) ?_ fun w hw=>?_
      ·simp only[execOp,hop,resolve,hc,hx,ht,invoke,builtin]
       simp[bind,Sem.bind];rfl
      ·obtain⟨w',H',hr,ho,hk⟩:=h.run (P:=P) hw (as:=#[t,t']) (ty:=o.type) rfl hd CG nh
       exact⟨_,w',H',hr,ho,hk⟩
    ·refine mA.ofValue (s:=Builtin.delete_ #[t,t'] o.type #[ρ m,ρ key]) ?_ fun w hw=>?_
     ·simp only[execOp,hop,resolve,hc,hx,ht,invoke,builtin]
      simp[bind,Sem.bind];rfl
     ·obtain⟨w',H',hr,ho,hk⟩:=h.run (P:=P) hw (as:=#[t,t']) (ty:=o.type) rfl hd CG hp
      exact⟨_,w',H',hr,ho,hk⟩
   ·exact h
  ·exact h
 all_goals exact h
end
end Go.Sx
namespace Go.Sx
open Go
section
variable {P:Program} {g:Gh} {ds:List Deferred}
def qH:Op→Bool
 | .move _| .assign _| .pick .. | .load .. | .nilCheck _| .binOp .. | .unOp .. | .convert .. | .fieldAddr .. | .field .. | .indexAddr .. | .index .. | .slice .. | .extract .. | .lookup .. | .makeFunc .. | .build .. | .makeInterface ..
 | .typeAssert .. =>true
 | .call c=>match c.callee with
  | .builtin .len| .builtin .cap| .builtin .min| .builtin .max=>true
  |_=>false
 |_=>false
def Nk(P:Program)(g:Gh)(f:FuncId)(args:Array Value)(H:Hp)(k:Value→Prop):Prop:=
 ∃v,aj P g f args H (fun e H'=>e=.returned v∧H'=H)∧k v
def Wz(P:Program)(g:Gh)(o:Oper)(ρ:Operand→Value)(H:Hp)(k:Value→Prop):Prop:=
 match o.op with
 | .call c=>match c.callee with
  | .value (.func f)=>cond (bh P f) (Nk P g f (c.args.toList.map ρ).toArray H k) False
  | .value x=>∃f first captured,ρ x=.func (.func f) first captured∧bh P f=true∧Nk P g f (first++(c.args.toList.map ρ).toArray++captured) H k
  |_=>False
 |_=>False
def bW:Option (Nat×Bool)→Option (Nat×Bool)→Bool
 |none,none=>true
 |some (i,a),some (j,b)=>Nat.beq i j&& (a==b)
 |_,_=>false
theorem gp{x y:Option (Nat×Bool)}(h:bW x y=true):x=y:=by
 cases x with
 |none=>cases y<;>simp_all[bW]
 |some a=>
  obtain⟨i,a⟩:=a
  cases y with
  |none=>simp[bW]at h
  |some b=>
   obtain⟨j,b⟩:=b
   simp only[bW,Bool.and_eq_true,beq_iff_eq]at h
   rw[Nat.eq_of_beq_eq_true h.1,h.2]
def fp(cur:Option (Nat×Bool)):List Oper→List Oper
 | []=>[]
 |o::r=>cond (bW o.guard cur) [] (o::fp cur r)
def gi(cur:Option (Nat×Bool)):List Oper→List Oper
 | []=>[]
 |o::r=>cond (bW o.guard cur) (o::r) (gi cur r)
theorem oZ(cur:Option (Nat×Bool))(l:List Oper):fp cur l++gi cur l=l:=by
 induction l with
 |nil=>rfl
 |cons o r ih=>simp only[fp,gi];cases bW o.guard cur<;>simp[ih]
def o4:List Oper→Fr→Fr
 | [],fr=>fr
 |o::r,fr=>o4 r (bT fr o.dst undef)
def bp:List Oper→Nat→Bool
 | [],_=>false
 |o::r,s=>(match o.dst with|some d=>Nat.beq s d|none=>false)||bp r s
def fT(n:Nat):List Oper→Bool
 | []=>true
 |o::r=>dk n o.dst&&fT n r
def uZ(G:List Oper)(gs fr:Fr):Fr:=fun s=>cond (bp G s) (gs s) (fr s)
def mL(p:Oper)(fr:Fr):Value:=
 match p.op with
 | .pick c a b=>match ev fr c with
  | .bool t=>cond t (ev fr a) (ev fr b)
  |_=>undef
 |_=>undef
def oD(p:Oper):Bool:=match p.op with| .pick .. =>true|_=>false
def dz(ops:Array Oper)(j:Nat):Option Nat:=match ops[j]? with|some oj=>oj.dst|none=>none
def kA(ops:Array Oper)(s:Nat)(want:Bool):List Nat→List Oper→Bool
 |_,[]=>true
 |seen,o::r=>
  (match o.guard with
  |none=>false
  |some (j,w)=>match dz ops j with
   |none=>false
   |some t=>(Nat.beq t s&& (w==want))||seen.any (Nat.beq t)) &&
  kA ops s want (match o.dst with|some d=>d::seen|none=>seen) r
def cw(v:Value)(want:Bool)(inner els k:Bool→Prop):Prop:=∃a t:Bool,v=.bool a∧(a=want→inner t)∧(a= !want→els t)∧k t
def Split(v:Value)(want:Bool)(k1 k2:Prop):Prop:=∃a:Bool,v=.bool a∧(a=want→k1)∧(a= !want→k2)
def jd:List (Nat×Bool)→Nat→Option Bool
 | [],_=>none
 |(t,b)::r,s=>cond (Nat.beq t s) (some b) (jd r s)
def jT:List (Nat×Bool)→Option Nat→List (Nat×Bool)
 |kn,none=>kn
 | [],some _=>[]
 |(t,b)::r,some d=>cond (Nat.beq t d) (jT r (some d)) ((t,b)::jT r (some d))
def jG:List (Nat×Bool)→List Oper→List (Nat×Bool)
 |kn,[]=>kn
 |kn,o::r=>jG (jT kn o.dst) r
def nG(kn:List (Nat×Bool)):Operand→Option Bool
 | .const (.bool b)=>some b
 | .tmp t=>jd kn t
 |_=>none
def Ov(kn:List (Nat×Bool))(o:Oper):Option Bool:=
 match o.op with
 | .move x=>nG kn x
 | .assign x=>nG kn x
 | .pick c a b=>match nG kn c with
  |some true=>nG kn a
  |some false=>nG kn b
  |none=>none
 |_=>none
def Ou(kn:List (Nat×Bool))(o:Oper):List (Nat×Bool):=
 match Ov kn o,o.dst with
 |some b,some d=>(d,b)::jT kn (some d)
 |_,d=>jT kn d
def fX(kn:List (Nat×Bool))(fr:Fr):Prop:=∀s b,jd kn s=some b→fr s=.bool b
theorem fX.nil(fr:Fr):fX [] fr:=fun s b h=>by simp[jd]at h
theorem tw{kn:List (Nat×Bool)}{d s:Nat}{b:Bool}(h:jd (jT kn (some d)) s=some b):s≠d∧jd kn s=some b:=by
 induction kn with
 |nil=>simp[jT,jd]at h
 |cons x r ih=>
  obtain⟨t,c⟩:=x
  simp only[jT]at h
  cases hb:Nat.beq t d<;>simp only[hb,cond_true,cond_false]at h
  ·simp only[jd]at h⊢
   cases hs:Nat.beq t s<;>simp only[hs,cond_true,cond_false]at h⊢
   ·exact ih h
   ·refine⟨fun e=>?_,h⟩
    have:=Nat.eq_of_beq_eq_true hs
    subst this;subst e;simp at hb
  ·have h':=ih h
   refine⟨h'.1,?_⟩
   simp only[jd]
   have:=Nat.eq_of_beq_eq_true hb
   subst this
   cases hs:Nat.beq t s
   ·exact h'.2
   ·exact absurd (Nat.eq_of_beq_eq_true hs).symm h'.1
theorem fX.del{kn:List (Nat×Bool)}{fr:Fr}(h:fX kn fr)(d:Option Nat)(v:Value):fX (jT kn d) (bT fr d v):=by
 cases d with
 |none=>cases kn<;>exact h
 |some d=>
  intro s b hs
  obtain⟨h1,h2⟩:=tw hs
  simp only[bT]
  cases hb:Nat.beq s d
  ·exact h s b h2
  ·exact absurd (Nat.eq_of_beq_eq_true hb) h1
theorem fX.put{kn:List (Nat×Bool)}{fr:Fr}(h:fX kn fr){s:Nat}{b:Bool}(hs:fr s=.bool b):fX ((s,b)::kn) fr:=by
 intro t c ht
 simp only[jd]at ht
 cases hb:Nat.beq s t<;>simp only[hb,cond_true,cond_false]at ht
 ·exact h t c ht
 ·have:=Nat.eq_of_beq_eq_true hb;subst this;simp only[Option.some.injEq]at ht;subst ht;exact hs
theorem jc{kn:List (Nat×Bool)}{fr:Fr}(h:fX kn fr){x:Operand}{b:Bool}(hx:nG kn x=some b):ev fr x=.bool b:=by
 cases x with
 |tmp t=>exact h t b hx
 |const v=>cases v<;>simp[nG]at hx;subst hx;rfl
 |global g=>simp[nG]at hx
 |func f=>simp[nG]at hx
theorem KO{kn:List (Nat×Bool)}{fr:Fr}(h:fX kn fr){o:Oper}{v:Value}(hv:valOf o (ev fr) v){b:Bool}(hb:Ov kn o=some b):v=.bool b:=by
 unfold Ov at hb
 unfold valOf at hv
 split at hb
 ·rename_i x hop;rw[hop]at hv;exact hv.trans (jc h hb)
 ·rename_i x hop;rw[hop]at hv;exact hv.trans (jc h hb)
 ·rename_i c a b' hop
  rw[hop]at hv
  split at hb
  ·rename_i hc;rw[hv _ (jc h hc)];exact jc h hb
  ·rename_i hc;rw[hv _ (jc h hc)];exact jc h hb
  ·simp at hb
 ·simp at hb
theorem fX.up{kn:List (Nat×Bool)}{fr:Fr}(h:fX kn fr){o:Oper}{v:Value}(hv:valOf o (ev fr) v):fX (Ou kn o) (bT fr o.dst v):=by
 unfold Ou
 split
 ·rename_i b d hb hd
  rw[hd]
  exact(h.del (some d) v).put (by simp[bT,KO h hv hb])
 ·exact h.del _ _
theorem fX.TA{kn:List (Nat×Bool)}{fr fr':Fr}:∀(l:List Oper),fX kn fr→(∀s,bp l s=false→fr' s=fr s)→fX (jG kn l) fr':=by
 intro l
 have key:∀(l:List Oper) (kn:List (Nat×Bool)) (s:Nat) (b:Bool),jd (jG kn l) s=some b→bp l s=false∧jd kn s=some b:=by
  intro l
  induction l with
  |nil=>intro kn s b h;exact⟨rfl,h⟩
  |cons o r ih=>
   intro kn s b h
   simp only[jG]at h
   obtain⟨h1,h2⟩:=ih _ s b h
   simp only[bp,h1,Bool.or_false]
   cases hd:o.dst with
   |none=>rw[hd]at h2;exact⟨rfl,by cases kn<;>exact h2⟩
   |some d=>
    rw[hd]at h2
    obtain⟨h3,h4⟩:=tw h2
    refine⟨?_,h4⟩
    cases hb:Nat.beq s d
    ·exact hb
    ·exact absurd (Nat.eq_of_beq_eq_true hb) h3
 intro h ho s b hs
 obtain⟨h1,h2⟩:=key l kn s b hs
 rw[ho s h1];exact h s b h2
def dA(P:Program)(g:Gh)(n:Nat)(ops:Array Oper)(gq:Bool):Nat→Bool→Option (Nat×Bool)→List (Nat×Bool)→List Oper→Fr→Hp→(List (Nat×Bool)→Fr→Hp→Prop)→(List PanicEntry→Hp→Prop)→Prop
 |0,_,_,_,_,_,_,_,_=>False
 |_+1,_,_,kn,[],fr,H,K,_=>K kn fr H
 |f+1,q,cur,kn,o::r,fr,H,K,KP=>
  cond (bW o.guard cur)
   (cond (dk n o.dst)
    (cond (qH o.op) (x4 P g o (ev fr) H fun v=>dA P g n ops gq f q cur (Ou kn o) r (bT fr o.dst v) H K KP)
     (cond q (Wz P g o (ev fr) H fun v=>dA P g n ops gq f q cur (jT kn o.dst) r (bT fr o.dst v) H K KP)
      (Jx P g o (ev fr) H (fun v H'=>dA P g n ops gq f q cur (jT kn o.dst) r (bT fr o.dst v) H' K KP) KP))) False)
   (match o.guard with
   |none=>False
   |some (j,want)=>
    match dz ops j with
    |none=>False
    |some s=>
     cond (dk n (some s) &&fT n (fp cur (o::r)) && !bp (fp cur (o::r)) s&&kA ops s want [] (fp cur (o::r)))
     (match jd kn s with
     |some b=>cond (b==want)
       (dA P g n ops gq f q o.guard kn (fp cur (o::r)) fr H (fun ng fr' H'=>dA P g n ops gq f q cur ng (gi cur (o::r)) fr' H' K KP) KP)
       (dA P g n ops gq f q cur (jG kn (fp cur (o::r))) (gi cur (o::r)) (o4 (fp cur (o::r)) fr) H K KP)
     |none=>
     cond (q||gq)
      (match gi cur (o::r)with
      | []=>False
      |p::r'=>
       cond (oD p&&dk n p.dst)
       (cw (fr s) want
        (fun t=>dA P g n ops gq f true o.guard ((s,want)::kn) (fp cur (o::r)) (bT fr (some s) (.bool want)) H (fun _ fr' H'=>H'=H∧mL p fr'=.bool t) (fun _ _=>False))
        (fun t=>mL p (o4 (fp cur (o::r)) (bT fr (some s) (.bool !want)))=.bool t)
        (fun t=>∀gs,dA P g n ops gq f q cur (jT (jG kn (fp cur (o::r))) p.dst) r' (bT (uZ (fp cur (o::r)) gs fr) p.dst (.bool t)) H K KP)) False)
      (Split (fr s) want
       (dA P g n ops gq f q o.guard ((s,want)::kn) (fp cur (o::r)) (bT fr (some s) (.bool want)) H (fun ng fr' H'=>dA P g n ops gq f q cur ng (gi cur (o::r)) fr' H' K KP) KP)
       (dA P g n ops gq f q cur ((s, !want)::jG kn (fp cur (o::r))) (gi cur (o::r)) (o4 (fp cur (o::r)) (bT fr (some s) (.bool !want))) H K KP))) False)
theorem iT{fr:Fr}{s:Nat}{v:Value}(h:fr s=v):bT fr (some s) v=fr:=by
 funext x
 simp only[bT]
 cases hb:Nat.beq x s
 ·rfl
 ·have:=Nat.eq_of_beq_eq_true hb;subst this;simp[h]
theorem eG{fr:Fr}{d:Option Nat}{v:Value}{s:Nat}(h:bp [({(default:Oper)with dst:=d})] s=false):bT fr d v s=fr s:=by
 cases d with
 |none=>rfl
 |some d=>simp only[bp,Bool.or_false]at h;simp only[bT,h,cond_false]
theorem cO{o:Oper}{r:List Oper}{s:Nat}:bp (o::r) s=(bp [({(default:Oper)with dst:=o.dst})] s||bp r s):=by
 simp[bp]
theorem bL{a b:List Oper}{s:Nat}:bp (a++b) s=(bp a s||bp b s):=by
 induction a with
 |nil=>simp[bp]
 |cons o r ih=>simp only[List.cons_append,bp,ih,Bool.or_assoc]
def dr(l:List Oper)(fr fr':Fr):Prop:=∀s,bp l s=false→fr' s=fr s
def jq(ops:Array Oper)(cur:Option (Nat×Bool))(l:List Oper)(fr:Fr):Prop:=
 match cur with
 |none=>True
 |some (j,want)=>∃s,dz ops j=some s∧fr s=.bool want∧bp l s=false
theorem jq.tail{ops:Array Oper}{cur:Option (Nat×Bool)}{o:Oper}{r:List Oper}{fr fr':Fr}(h:jq ops cur (o::r) fr)(he:∀s,bp [({(default:Oper)with dst:=o.dst})] s=false→fr' s=fr s):jq ops cur r fr':=by
 unfold jq at*
 split
 ·trivial
 ·obtain⟨s,h1,h2,h3⟩:=h
  rw[cO,Bool.or_eq_false_iff]at h3
  exact⟨s,h1,(he s h3.1).trans h2,h3.2⟩
theorem jw{n:Nat}{ops:Array Oper}{a:Act}{fr:Fr}(h:bV ds n a fr){j s:Nat}(hs:dz ops j=some s):yielded ops a.tmps j=match fr s with| .bool b=>some b|_=>none:=by
 unfold dz at hs
 split at hs
 ·rename_i oj hj
  have hg:=h.get s
  rw[Array.getD_eq_getD_getElem?]at hg
  simp only[yielded,hj,Option.bind_some,hs]
  cases ht:a.tmps[s]? with
  |none=>rw[ht]at hg;simp only[Option.getD_none]at hg;rw[←hg];rfl
  |some v=>rw[ht]at hg;simp only[Option.getD_some]at hg;rw[←hg];cases v<;>rfl
 ·simp at hs
theorem jq.wanted{n:Nat}{ops:Array Oper}{cur:Option (Nat×Bool)}{l:List Oper}{fr:Fr}(h:jq ops cur l fr){o:Oper}(ho:o.guard=cur){a:Act}(ha:bV ds n a fr):Region.wanted o (yielded ops a.tmps)=true:=by
 unfold jq at h
 unfold Region.wanted
 rw[ho]
 split at h
 ·rfl
 ·obtain⟨s,h1,h2,_⟩:=h
  simp only[jw ha h1,h2,beq_self_eq_true]
theorem mK{p:Oper}{fr:Fr}{t:Bool}(hp:oD p=true)(h:mL p fr=.bool t)(w:World):(execOp (ev fr) p).run P w=.ok (.value (.bool t)) w:=by
 unfold oD at hp
 split at hp<;>try (simp at hp;done)
 rename_i c a b hop
 simp only[mL,hop]at h
 split at h
 ·rename_i t' hc
  simp only[execOp,hop,hc,asBool]
  cases t'<;>simp only[cond_true,cond_false]at h<;>simp[h]
 ·simp[undef]at h
theorem lD{n:Nat}{ops:Array Oper}{Q:Exit→Act→World→Prop}{s:Nat}{want:Bool}{w:World}{rest:List Oper}:∀(l:List Oper) (seen:List Nat) (fr:Fr) (a:Act),fT n l=true→bp l s=false→kA ops s want seen l=true→
  fr s=.bool (!want)→(∀t∈seen,fr t=undef)→bV ds n a fr→(∀a',bV ds n a' (o4 l fr)→wpList P ops Q rest a' w)→wpList P ops Q (l++rest) a w
 | [],_,fr,a,_,_,_,_,_,ha,hk=>hk a ha
 |o::r,seen,fr,a,hd,hi,hs,hf,qI,ha,hk=>by
  simp only[fT,Bool.and_eq_true]at hd
  rw[cO,Bool.or_eq_false_iff]at hi
  simp only[kA,Bool.and_eq_true]at hs
  obtain⟨yZ,wR⟩:=hs
  have Sb:Region.wanted o (yielded ops a.tmps)=false:=by
   unfold Region.wanted
   split at yZ
   ·simp at yZ
   ·rename_i j w' hg
    rw[hg]
    split at yZ
    ·simp at yZ
    ·rename_i t ht
     simp only[jw ha ht]
     simp only[Bool.or_eq_true,Bool.and_eq_true,beq_iff_eq]at yZ
     rcases yZ with⟨h1,rfl⟩|h1
     ·have:=Nat.eq_of_beq_eq_true h1;subst this
      rw[hf];cases w'<;>rfl
     ·obtain⟨u,hu,hb⟩:=List.any_eq_true.1 h1
      have:=Nat.eq_of_beq_eq_true hb;subst this
      rw[qI _ hu];rfl
  simp only[List.cons_append,wpList,Sb,Bool.false_eq_true,if_false]
  refine lD r _ (bT fr o.dst undef) _ hd.2 hi.2 wR ?_ ?_ (ha.put hd.1 undef) (fun a' h'=>hk a' h')
  ·rw[eG hi.1,hf]
  ·intro t ht
   cases HR:o.dst with
   |none=>rw[HR]at ht;exact qI t ht
   |some d=>
    rw[HR]at ht
    simp only[bT]
    cases hb:Nat.beq t d
    ·simp only[cond_false]
     rcases List.mem_cons.1 ht with rfl|ht
     ·simp at hb
     ·exact qI t ht
    ·rfl
theorem mH{n:Nat}{ops:Array Oper}{C:World→Prop}{Q:Act→Prop}{s:Nat}{want:Bool}{rest:List Oper}:∀(l:List Oper) (seen:List Nat) (fr:Fr) (a:Act),fT n l=true→bp l s=false→kA ops s want seen l=true→
  fr s=.bool (!want)→(∀t∈seen,fr t=undef)→bV ds n a fr→(∀a',bV ds n a' (o4 l fr)→wpQuiet P ops C Q rest a')→wpQuiet P ops C Q (l++rest) a
 | [],_,fr,a,_,_,_,_,_,ha,hk=>hk a ha
 |o::r,seen,fr,a,hd,hi,hs,hf,qI,ha,hk=>by
  simp only[fT,Bool.and_eq_true]at hd
  rw[cO,Bool.or_eq_false_iff]at hi
  simp only[kA,Bool.and_eq_true]at hs
  obtain⟨yZ,wR⟩:=hs
  have Sb:Region.wanted o (yielded ops a.tmps)=false:=by
   unfold Region.wanted
   split at yZ
   ·simp at yZ
   ·rename_i j w' hg
    rw[hg]
    split at yZ
    ·simp at yZ
    ·rename_i t ht
     simp only[jw ha ht]
     simp only[Bool.or_eq_true,Bool.and_eq_true,beq_iff_eq]at yZ
     rcases yZ with⟨h1,rfl⟩|h1
     ·have:=Nat.eq_of_beq_eq_true h1;subst this
      rw[hf];cases w'<;>rfl
     ·obtain⟨u,hu,hb⟩:=List.any_eq_true.1 h1
      have:=Nat.eq_of_beq_eq_true hb;subst this
      rw[qI _ hu];rfl
  simp only[List.cons_append,wpQuiet,Sb,Bool.false_eq_true,if_false]
  refine mH r _ (bT fr o.dst undef) _ hd.2 hi.2 wR ?_ ?_ (ha.put hd.1 undef) (fun a' h'=>hk a' h')
  ·rw[eG hi.1,hf]
  ·intro t ht
   cases HR:o.dst with
   |none=>rw[HR]at ht;exact qI t ht
   |some d=>
    rw[HR]at ht
    simp only[bT]
    cases hb:Nat.beq t d
    ·simp only[cond_false]
     rcases List.mem_cons.1 ht with rfl|ht
     ·simp at hb
     ·exact qI t ht
    ·rfl
theorem cz:∀(l:List Oper) (fr:Fr),dr l fr (o4 l fr)
 | [],fr=>fun s _=>rfl
 |o::r,fr=>fun s hs=>by
  rw[cO,Bool.or_eq_false_iff]at hs
  rw[o4,cz r _ s hs.2,eG hs.1]
end
end Go.Sx
namespace Go.Sx
open Go
section
variable {P:Program} {g:Gh} {ds:List Deferred}
theorem lR(fr:Fr):∀f,ev fr (.func f)=.func (.func f) #[] #[]:=fun _=>rfl
theorem Cj{o:Oper}{fr:Fr}{H:Hp}{k:Value→Prop}(h:Wz P g o (ev fr) H k):
  ∃v f args,(∀w,(execOp (ev fr) o).run P w=.ok (.enter f args) w)∧aj P g f args H (fun e H'=>e=.returned v∧H'=H)∧k v:=by
 unfold Wz at h
 split at h<;>try exact h.elim
 rename_i c hop
 split at h<;>try exact h.elim
 ·rename_i f hc
  cases fx:bh P f<;>simp only[fx,cond_true,cond_false]at h
  obtain⟨v,hs,hk⟩:=h
  rw[mapList]at hs
  refine⟨v,f,_,fun w=>?_,hs,hk⟩
  simp only[execOp,hop,resolve,hc,Deferred.ofValue,lR,invoke]
  show(callFunc f ((#[]++c.args.map (ev fr))++ #[])).run P w=_
  rw[Array.empty_append,Array.append_empty]
  exact dU fx _ w
 ·rename_i x _ hc
  obtain⟨f,first,captured,hf,fx,v,hs,hk⟩:=h
  rw[mapList]at hs
  refine⟨v,f,_,fun w=>?_,hs,hk⟩
  simp only[execOp,hop,resolve,hc,Deferred.ofValue,hf,invoke]
  show(callFunc f (first++c.args.map (ev fr)++captured)).run P w=_
  exact dU fx _ w
theorem lA.upon{o:Oper}{a:Act}{K:Value→Hp→Prop}{KP:List PanicEntry→Hp→Prop}{next:Act→World→Prop}{Q:Exit→Act→World→Prop}{r:Result Next}
 (h:lA P g K KP r)(hn:∀v H' w',Own g H' w'→K v H'→next (a.put o.dst v) w')(hp:∀ch H' w',Own g H' w'→KP ch H'→Q (.panic ch) a w'):o.upon P a next Q r:=by
 cases r with
 |ok n w'=>
  cases n<;>simp only[lA]at h<;>simp only[Oper.upon]
  case value v=>obtain⟨H',ho,hk⟩:=h;exact hn _ _ _ ho hk
  case skip=>obtain⟨H',ho,hk⟩:=h;exact hn _ _ _ ho hk
  case enter f args=>
   refine h.mono fun e w'' ⟨H',ho,hk⟩=>?_
   cases e with
   |returned v=>exact hn _ _ _ ho hk
   |panicked ch=>exact hp _ _ _ ho hk
   |outgrown=>exact hk.elim
 |halt x w'=>
  cases x<;>simp only[lA]at h
  case panic v=>obtain⟨H',ho,hk⟩:=h;exact hp _ _ _ ho hk
theorem dr.refl(l:List Oper)(fr:Fr):dr l fr fr:=fun _ _=>rfl
theorem dr.cons{o:Oper}{r:List Oper}{fr fr':Fr}{v:Value}(h:dr r (bT fr o.dst v) fr'):dr (o::r) fr fr':=fun s hs=>by
 rw[cO,Bool.or_eq_false_iff]at hs
 rw[h s hs.2,eG hs.1]
theorem bZ{n:Nat}{ops:Array Oper}{gq:Bool}:∀(f:Nat) (q:Bool) (cur:Option (Nat×Bool)) (kn:List (Nat×Bool)) (l:List Oper) (fr:Fr) (H:Hp) (K:List (Nat×Bool)→Fr→Hp→Prop) (KP:List PanicEntry→Hp→Prop),
  dA P g n ops gq f q cur kn l fr H K KP→jq ops cur l fr→fX kn fr→∀(a:Act) (w:World),bV ds n a fr→Own g H w→∀(rest:List Oper) (Q:Exit→Act→World→Prop),
  (∀a' w' ng fr' H',bV ds n a' fr'→Own g H' w'→dr l fr fr'→fX ng fr'→K ng fr' H'→wpList P ops Q rest a' w')→
  (∀ch a' w' fr' H',bV ds n a' fr'→Own g H' w'→KP ch H'→Q (.panic ch) a' w')→wpList P ops Q (l++rest) a w
 |0,_,_,_,_,_,_,_,_,h=>h.elim
 |f+1,q,cur,kn,[],fr,H,K,KP,h=>fun _ hkn a w ha hw rest Q hk _=>hk a w kn fr H ha hw (dr.refl _ _) hkn h
 |f+1,q,cur,kn,o::r,fr,H,K,KP,h=>by
  intro jZ hkn a w ha hw rest Q hk hp
  unfold dA at h
  cases RT:bW o.guard cur<;>simp only[RT,cond_true,cond_false]at h
  case true=>
   have hg:=gp RT
   have mq:=jZ.wanted hg ha
   cases hd:dk n o.dst<;>simp only[hd,cond_true,cond_false]at h
   simp only[List.cons_append,wpList,mq,if_true]
   refine .inl ?_
   unfold Oper.wp
   rw[ha.eval]
   cases uT:qH o.op<;>simp only[uT,cond_true,cond_false]at h
   case true=>
    obtain⟨v,hk',hr,hv⟩:=lH h
    rw[hr w hw]
    exact bZ f q cur _ r _ H K KP hk' (jZ.tail fun s hs=>eG hs) (hkn.up hv) _ w (ha.put hd v) hw rest Q (fun a' w' ng fr' H' h1 h2 h3 h5 h4=>hk a' w' ng fr' H' h1 h2 h3.cons h5 h4) hp
   case false=>
    cases q<;>simp only[cond_true,cond_false]at h
    case true=>
     obtain⟨v,f',args,hr,hs,hk'⟩:=Cj h
     rw[hr w]
     refine(hs w hw).mono fun e w'' ⟨H',ho,he,hH⟩=>?_
     subst he;subst hH
     exact bZ f true cur _ r _ H' K KP hk' (jZ.tail fun s hs=>eG hs) (hkn.del _ _) _ w'' (ha.put hd v) ho rest Q (fun a' w' ng fr' H' h1 h2 h3 h5 h4=>hk a' w' ng fr' H' h1 h2 h3.cons h5 h4) hp
    case false=>
     refine(qy (lR fr) h w hw).upon (fun v H' w' ho hk'=>?_) (fun ch H' w' ho hk'=>hp ch a w' fr H' ha ho hk')
     exact bZ f false cur _ r _ H' K KP hk' (jZ.tail fun s hs=>eG hs) (hkn.del _ _) _ w' (ha.put hd v) ho rest Q (fun a' w' ng fr' H' h1 h2 h3 h5 h4=>hk a' w' ng fr' H' h1 h2 h3.cons h5 h4) hp
  case false=>
   split at h<;>try exact h.elim
   rename_i j want Qu
   split at h<;>try exact h.elim
   rename_i s ik
   generalize hG:fp cur (o::r)=G at h
   generalize hR:gi cur (o::r)=R at h
   have CZ:G++R=o::r:=by rw[←hG,←hR];exact oZ _ _
   cases dR:(dk n (some s) &&fT n G&& !bp G s&&kA ops s want [] G)<;>simp only[dR,cond_true,cond_false]at h
   simp only[Bool.and_eq_true,Bool.not_eq_true']at dR
   obtain⟨⟨⟨hds,QA⟩,FJ⟩,MD⟩:=dR
   rw[←CZ,List.append_assoc]
   have aa3:∀fr',dr G fr fr'→∀s,bp (o::r) s=false→fr' s=fr s:=fun fr' ho s hs=>by
    rw[←CZ,bL,Bool.or_eq_false_iff]at hs
    exact ho s hs.1
   have kP:∀fr',dr G fr fr'→jq ops cur R fr':=fun fr' ho=>by
    unfold jq at jZ⊢
    split
    ·trivial
    ·obtain⟨t,h1,h2,h3⟩:=jZ
     have vJ:=h3
     rw[←CZ,bL,Bool.or_eq_false_iff]at vJ
     exact⟨t,h1,(ho t vJ.1).trans h2,vJ.2⟩
   have Ep:∀fr',dr G fr fr'→fX (jG kn G) fr':=fun fr' ho=>hkn.TA G ho
   split at h
   ·rename_i b hb
    have mr:=hkn s b hb
    cases K9:(b==want)<;>simp only[K9,cond_true,cond_false]at h
    ·have lZ:b= !want:=by cases b<;>cases want<;>simp_all
     subst lZ
     refine lD G [] fr a QA FJ MD mr (fun t ht=>by simp at ht) ha fun a' dL=>?_
     refine bZ f q cur _ R _ H K KP h (kP _ (cz G fr)) (Ep _ (cz G fr)) a' w dL hw rest Q (fun a2 w2 yU pg H2 k1 k2 k3 k5 k4=>hk a2 w2 yU pg H2 k1 k2 ?_ k5 k4) hp
     intro x hx
     have hx':=hx
     rw[←CZ,bL,Bool.or_eq_false_iff]at hx'
     rw[k3 x hx'.2,cz G fr x hx'.1]
    ·have lZ:b=want:=by cases b<;>cases want<;>simp_all
     subst lZ
     refine bZ f q o.guard kn G fr H _ KP h ?_ hkn a w ha hw (R++rest) Q ?_ hp
     ·rw[Qu];exact⟨s,ik,mr,FJ⟩
     ·intro a' w' ng fr' H' g1 g2 g3 g5 g4
      refine bZ f q cur ng R fr' H' K KP g4 (kP fr' g3) g5 a' w' g1 g2 rest Q (fun a2 w2 yU pg H2 k1 k2 k3 k5 k4=>hk a2 w2 yU pg H2 k1 k2 ?_ k5 k4) hp
      intro x hx
      have hx':=hx
      rw[←CZ,bL,Bool.or_eq_false_iff]at hx'
      rw[k3 x hx'.2,g3 x hx'.1]
   rename_i OT
   cases hqq:(q||gq)<;>simp only[hqq,cond_true,cond_false]at h
   case true=>
    split at h<;>try exact h.elim
    rename_i p r' 
    have Xn:bW p.guard cur=true:=by
     have:∀l:List Oper,gi cur l=p::r'→bW p.guard cur=true:=by
      intro l
      induction l with
      |nil=>intro e;simp[gi]at e
      |cons x y ih=>
       intro e
       simp only[gi]at e
       cases hx:bW x.guard cur<;>simp only[hx,cond_true,cond_false]at e
       ·exact ih e
       ·simp only[List.cons.injEq]at e;rw[←e.1];exact hx
     exact this _ hR
    cases hpk:(oD p&&dk n p.dst)<;>simp only[hpk,cond_true,cond_false]at h
    simp only[Bool.and_eq_true]at hpk
    obtain⟨b,t,mr,h1,h2,h3⟩:=h
    have oH:∀(a':Act) (w':World) (fr':Fr),bV ds n a' fr'→Own g H w'→dr G fr fr'→mL p fr'=.bool t→wpList P ops Q (p::r'++rest) a' w':=by
     intro a' w' fr' dL cU ho RX
     have mq:=(kP fr' ho).wanted (gp Xn) dL
     simp only[List.cons_append,wpList,mq,if_true]
     refine .inl ?_
     unfold Oper.wp
     rw[dL.eval,mK hpk.1 RX w']
     have HN:uZ G fr' fr=fr':=by
      funext x
      simp only[uZ]
      cases hx:bp G x
      ·exact(ho x hx).symm
      ·rfl
     have vJ:=h3 fr'
     rw[HN]at vJ
     refine bZ f q cur _ r' _ H K KP vJ ((kP fr' ho).tail fun s hs=>eG hs) ((Ep fr' ho).del _ _) _ w' (dL.put hpk.2 _) cU rest Q (fun a2 w2 yU pg H2 g1 g2 g3 g5 g4=>hk a2 w2 yU pg H2 g1 g2 ?_ g5 g4) hp
     intro x hx
     have hx':=hx
     rw[←CZ,bL,Bool.or_eq_false_iff,cO,Bool.or_eq_false_iff]at hx'
     rw[g3 x hx'.2.2,eG hx'.2.1,ho x hx'.1]
    by_cases K9:b=want
    ·subst K9
     have wY:=h1 rfl
     rw[iT mr]at wY
     refine bZ f true o.guard _ G fr H _ _ wY ?_ (hkn.put mr) a w ha hw (p::r'++rest) Q ?_ ?_
     ·rw[Qu];exact⟨s,ik,mr,FJ⟩
     ·intro a' w' ng fr' H' g1 g2 g3 _ ⟨g4,g5⟩
      subst g4
      exact oH a' w' fr' g1 g2 g3 g5
     ·intro _ _ _ _ _ _ _ h0;exact h0.elim
    ·have lZ:b= !want:=by cases b<;>cases want<;>simp_all
     have kQ:=h2 lZ
     subst lZ
     rw[iT mr]at kQ
     refine lD G [] fr a QA FJ MD mr (fun t ht=>by simp at ht) ha fun a' dL=>?_
     exact oH a' w _ dL hw (cz G fr) kQ
   case false=>
    obtain⟨b,mr,h1,h2⟩:=h
    by_cases K9:b=want
    ·subst K9
     have wY:=h1 rfl
     rw[iT mr]at wY
     refine bZ f q o.guard _ G fr H _ KP wY ?_ (hkn.put mr) a w ha hw (R++rest) Q ?_ hp
     ·rw[Qu];exact⟨s,ik,mr,FJ⟩
     ·intro a' w' ng fr' H' g1 g2 g3 g5 g4
      refine bZ f q cur ng R fr' H' K KP g4 (kP fr' g3) g5 a' w' g1 g2 rest Q (fun a2 w2 yU pg H2 k1 k2 k3 k5 k4=>hk a2 w2 yU pg H2 k1 k2 ?_ k5 k4) hp
      intro x hx
      have hx':=hx
      rw[←CZ,bL,Bool.or_eq_false_iff]at hx'
      rw[k3 x hx'.2,g3 x hx'.1]
    ·have lZ:b= !want:=by cases b<;>cases want<;>simp_all
     have kQ:=h2 lZ
     subst lZ
     rw[iT mr]at kQ
     refine lD G [] fr a QA FJ MD mr (fun t ht=>by simp at ht) ha fun a' dL=>?_
     refine bZ f q cur _ R _ H K KP kQ (kP _ (cz G fr)) ((Ep _ (cz G fr)).put (by rw[cz G fr s FJ,mr])) a' w dL hw rest Q (fun a2 w2 yU pg H2 k1 k2 k3 k5 k4=>hk a2 w2 yU pg H2 k1 k2 ?_ k5 k4) hp
     intro x hx
     have hx':=hx
     rw[←CZ,bL,Bool.or_eq_false_iff]at hx'
     rw[k3 x hx'.2,cz G fr x hx'.1]
theorem cP{n:Nat}{ops:Array Oper}{gq:Bool}:∀(f:Nat) (cur:Option (Nat×Bool)) (kn:List (Nat×Bool)) (l:List Oper) (fr:Fr) (H:Hp) (K:List (Nat×Bool)→Fr→Hp→Prop) (KP:List PanicEntry→Hp→Prop),
  dA P g n ops gq f true cur kn l fr H K KP→jq ops cur l fr→fX kn fr→∀(a:Act),bV ds n a fr→∀(rest:List Oper) (Q:Act→Prop),
  (∀a' ng fr',bV ds n a' fr'→dr l fr fr'→fX ng fr'→K ng fr' H→wpQuiet P ops (Own g H) Q rest a')→wpQuiet P ops (Own g H) Q (l++rest) a
 |0,_,_,_,_,_,_,_,h=>h.elim
 |f+1,cur,kn,[],fr,H,K,KP,h=>fun _ hkn a ha rest Q hk=>hk a kn fr ha (dr.refl _ _) hkn h
 |f+1,cur,kn,o::r,fr,H,K,KP,h=>by
  intro jZ hkn a ha rest Q hk
  unfold dA at h
  cases RT:bW o.guard cur<;>simp only[RT,cond_true,cond_false]at h
  case true=>
   have hg:=gp RT
   have mq:=jZ.wanted hg ha
   cases hd:dk n o.dst<;>simp only[hd,cond_true,cond_false]at h
   simp only[List.cons_append,wpQuiet,mq,if_true]
   cases uT:qH o.op<;>simp only[uT,cond_true,cond_false]at h
   case true=>
    obtain⟨v,hk',hr,hv⟩:=lH h
    refine⟨v,fun w hw=>?_,?_⟩
    ·unfold Oper.quietAt
     rw[ha.eval,hr w hw]
     exact⟨rfl,rfl⟩
    ·exact cP f cur _ r _ H K KP hk' (jZ.tail fun s hs=>eG hs) (hkn.up hv) _ (ha.put hd v) rest Q (fun a' ng fr' h1 h3 h5 h4=>hk a' ng fr' h1 h3.cons h5 h4)
   case false=>
    obtain⟨v,f',args,hr,hs,hk'⟩:=Cj h
    refine⟨v,fun w hw=>?_,?_⟩
    ·unfold Oper.quietAt
     rw[ha.eval,hr w]
     refine⟨rfl,(hs w hw).mono fun e w'' ⟨H',ho,he,hH⟩=>?_⟩
     subst hH
     exact⟨he,ho⟩
    ·exact cP f cur _ r _ H K KP hk' (jZ.tail fun s hs=>eG hs) (hkn.del _ _) _ (ha.put hd v) rest Q (fun a' ng fr' h1 h3 h5 h4=>hk a' ng fr' h1 h3.cons h5 h4)
  case false=>
   split at h<;>try exact h.elim
   rename_i j want Qu
   split at h<;>try exact h.elim
   rename_i s ik
   generalize hG:fp cur (o::r)=G at h
   generalize hR:gi cur (o::r)=R at h
   have CZ:G++R=o::r:=by rw[←hG,←hR];exact oZ _ _
   cases dR:(dk n (some s) &&fT n G&& !bp G s&&kA ops s want [] G)<;>simp only[dR,cond_true,cond_false]at h
   simp only[Bool.and_eq_true,Bool.not_eq_true']at dR
   obtain⟨⟨⟨hds,QA⟩,FJ⟩,MD⟩:=dR
   rw[←CZ,List.append_assoc]
   have kP:∀fr',dr G fr fr'→jq ops cur R fr':=fun fr' ho=>by
    unfold jq at jZ⊢
    split
    ·trivial
    ·obtain⟨t,h1,h2,h3⟩:=jZ
     have vJ:=h3
     rw[←CZ,bL,Bool.or_eq_false_iff]at vJ
     exact⟨t,h1,(ho t vJ.1).trans h2,vJ.2⟩
   have Ep:∀fr',dr G fr fr'→fX (jG kn G) fr':=fun fr' ho=>hkn.TA G ho
   split at h
   ·rename_i b hb
    have mr:=hkn s b hb
    cases K9:(b==want)<;>simp only[K9,cond_true,cond_false]at h
    ·have lZ:b= !want:=by cases b<;>cases want<;>simp_all
     subst lZ
     refine mH G [] fr a QA FJ MD mr (fun t ht=>by simp at ht) ha fun a' dL=>?_
     refine cP f cur _ R _ H K KP h (kP _ (cz G fr)) (Ep _ (cz G fr)) a' dL rest Q (fun a2 yU pg k1 k3 k5 k4=>hk a2 yU pg k1 ?_ k5 k4)
     intro x hx
     have hx':=hx
     rw[←CZ,bL,Bool.or_eq_false_iff]at hx'
     rw[k3 x hx'.2,cz G fr x hx'.1]
    ·have lZ:b=want:=by cases b<;>cases want<;>simp_all
     subst lZ
     refine cP f o.guard kn G fr H _ KP h ?_ hkn a ha (R++rest) Q ?_
     ·rw[Qu];exact⟨s,ik,mr,FJ⟩
     ·intro a' ng fr' g1 g3 g5 g4
      refine cP f cur ng R fr' H K KP g4 (kP fr' g3) g5 a' g1 rest Q (fun a2 yU pg k1 k3 k5 k4=>hk a2 yU pg k1 ?_ k5 k4)
      intro x hx
      have hx':=hx
      rw[←CZ,bL,Bool.or_eq_false_iff]at hx'
      rw[k3 x hx'.2,g3 x hx'.1]
   rename_i OT
   simp only[Bool.true_or,cond_true]at h
   split at h<;>try exact h.elim
   rename_i p r' 
   have Xn:bW p.guard cur=true:=by
    have:∀l:List Oper,gi cur l=p::r'→bW p.guard cur=true:=by
     intro l
     induction l with
     |nil=>intro e;simp[gi]at e
     |cons x y ih=>
      intro e
      simp only[gi]at e
      cases hx:bW x.guard cur<;>simp only[hx,cond_true,cond_false]at e
      ·exact ih e
      ·simp only[List.cons.injEq]at e;rw[←e.1];exact hx
    exact this _ hR
   cases hpk:(oD p&&dk n p.dst)<;>simp only[hpk,cond_true,cond_false]at h
   simp only[Bool.and_eq_true]at hpk
   obtain⟨b,t,mr,h1,h2,h3⟩:=h
   have oH:∀(a':Act) (fr':Fr),bV ds n a' fr'→dr G fr fr'→mL p fr'=.bool t→wpQuiet P ops (Own g H) Q (p::r'++rest) a':=by
    intro a' fr' dL ho RX
    have mq:=(kP fr' ho).wanted (gp Xn) dL
    simp only[List.cons_append,wpQuiet,mq,if_true]
    refine⟨.bool t,fun w hw=>?_,?_⟩
    ·unfold Oper.quietAt
     rw[dL.eval,mK hpk.1 RX w]
     exact⟨rfl,rfl⟩
    have HN:uZ G fr' fr=fr':=by
     funext x
     simp only[uZ]
     cases hx:bp G x
     ·exact(ho x hx).symm
     ·rfl
    have vJ:=h3 fr'
    rw[HN]at vJ
    refine cP f cur _ r' _ H K KP vJ ((kP fr' ho).tail fun s hs=>eG hs) ((Ep fr' ho).del _ _) _ (dL.put hpk.2 _) rest Q (fun a2 yU pg g1 g3 g5 g4=>hk a2 yU pg g1 ?_ g5 g4)
    intro x hx
    have hx':=hx
    rw[←CZ,bL,Bool.or_eq_false_iff,cO,Bool.or_eq_false_iff]at hx'
    rw[g3 x hx'.2.2,eG hx'.2.1,ho x hx'.1]
   by_cases K9:b=want
   ·subst K9
    have wY:=h1 rfl
    rw[iT mr]at wY
    refine cP f o.guard _ G fr H _ _ wY ?_ (hkn.put mr) a ha (p::r'++rest) Q ?_
    ·rw[Qu];exact⟨s,ik,mr,FJ⟩
    ·intro a' ng fr' g1 g3 _ ⟨_,g5⟩
     exact oH a' fr' g1 g3 g5
   ·have lZ:b= !want:=by cases b<;>cases want<;>simp_all
    have kQ:=h2 lZ
    subst lZ
    rw[iT mr]at kQ
    refine mH G [] fr a QA FJ MD mr (fun t ht=>by simp at ht) ha fun a' dL=>?_
    exact oH a' _ dL (cz G fr) kQ
end
end Go.Sx
namespace Go.Sx
open Go
section
variable {P:Program} {ops:Array Oper} {Q:Exit→Act→World→Prop} {md:Region.Mode} {S:Nat→World→World→Prop} {S0:World→Prop}
def cG(P:Program)(md:Region.Mode)(ops:Array Oper)(Q:Exit→Act→World→Prop)(S:Nat→World→World→Prop):Nat→Array Bool→Act→World→Prop
 |0,listed,a,w=>Region.ready md ops listed=[]∧Q .normal a w
 |n+1,listed,a,w=>(Region.ready md ops listed=[]→Q .normal a w)∧
  ∀i∈Region.ready md ops listed,wpOp P ops Q i (fun a' w'=>S i w w'∧cG P md ops Q S n (listed.setIfInBounds i true) a' w') a w
theorem cG.any:∀{n:Nat} {listed:Array Bool} {a:Act} {w:World},cG P md ops Q S n listed a w→wpAny P md ops Q n listed a w
 |0,_,_,_,h=>h
 |_+1,_,_,_,h=>⟨h.1,fun i hi=>wpOp_mono (fun _ _ h'=>h'.2.any) (h.2 i hi)⟩
def GS(md:Region.Mode)(ops:Array Oper)(i j:Nat):Prop:=∀oj,ops[j]? =some oj→∀e∈oj.after,Region.binds md e=true→e.on≠i
def dP(md:Region.Mode)(ops:Array Oper)(listed:Array Bool):Prop:=∀j oj,ops[j]? =some oj→listed.getD j true=true→∀e∈oj.after,Region.binds md e=true→listed.getD e.on true=true
inductive lg(md:Region.Mode)(ops:Array Oper)(i:Nat):Nat→Prop
 |one {j:Nat} {oj:Oper} {e:Edge}:ops[j]? =some oj→e∈oj.after→Region.binds md e=true→e.on=i→lg md ops i j
 |more {j:Nat} {oj:Oper} {e:Edge}:ops[j]? =some oj→e∈oj.after→Region.binds md e=true→lg md ops i e.on→lg md ops i j
theorem uY{a:Array Bool}{i:Nat}(h:a.getD i false=true):a.getD i true=true:=by
 rw[Array.getD_eq_getD_getElem?]at*
 cases hg:a[i]? with
 |none=>rfl
 |some b=>rw[hg]at h;simpa using h
theorem pc{a:Array Bool}{i k:Nat}(h:a.getD k true=true):(a.setIfInBounds i true).getD k true=true:=by
 by_cases e:i=k
 ·subst e
  rw[Array.getD_eq_getD_getElem?,Array.getElem?_setIfInBounds_self]
  split<;>rfl
 ·rw[getD_set_ne true e];exact h
theorem dP.waits{listed:Array Bool}(hc:dP md ops listed){i j:Nat}(h:lg md ops i j):listed.getD j true=true→listed.getD i true=true:=by
 induction h with
 |one h1 h2 h3 h4=>intro h;rw[←h4];exact hc _ _ h1 h _ h2 h3
 |more h1 h2 h3 _ ih=>intro h;exact ih (hc _ _ h1 h _ h2 h3)
theorem dP.ready{listed:Array Bool}(hc:dP md ops listed){i j:Nat}(hj:j∈Region.ready md ops listed)(h:lg md ops i j):listed.getD i true=true:=by
 obtain⟨_,oj,gh,aP⟩:=mem_ready.1 hj
 cases h with
 |one h1 h2 h3 h4=>rw[gh]at h1;cases h1;rw[←h4];exact uY (aP _ h2 h3)
 |more h1 h2 h3 h4=>rw[gh]at h1;cases h1;exact hc.waits h4 (uY (aP _ h2 h3))
theorem dP.step{listed:Array Bool}(hc:dP md ops listed){j:Nat}(hj:j∈Region.ready md ops listed):dP md ops (listed.setIfInBounds j true):=by
 intro k ok hk hl e he hb
 by_cases KZ:j=k
 ·subst KZ
  obtain⟨_,oj,gh,aP⟩:=mem_ready.1 hj
  rw[hk]at gh;cases gh
  exact pc (uY (aP e he hb))
 ·rw[getD_set_ne true KZ]at hl
  exact pc (hc k ok hk hl e he hb)
theorem dP.none(n:Nat)(h:ops.size=n):dP md ops (Array.replicate n false):=by
 intro j oj hj hl
 exfalso
 have hlt:=(Array.getElem?_eq_some_iff.1 hj).1
 rw[Array.getD_eq_getD_getElem?,Array.getElem?_replicate,if_pos (by omega)]at hl
 cases hl
theorem cG.first{i:Nat}{oi:Oper}{v:Value}(hi:ops[i]? =some oi)(hsel:Region.noSelect ops=true)(hQ:∀c a w,Q (.panic c) (a.put oi.dst v) w→Q (.panic c) a w)
 (UY:∀w,S0 w→S i w w)(hS:∀j oj w w',ops[j]? =some oj→j≠i→¬lg md ops i j→S0 w→S j w w'→S0 w'):∀(n:Nat) (listed:Array Bool) (a:Act) (w:World),dP md ops listed→
   (∀j oj,ops[j]? =some oj→j≠i→listed.getD j true=false→GS md ops i j→oi.apart ops oj=true)→i∈Region.ready md ops listed→YieldsIf P ops S0 oi v a→S0 w→
   cG P md ops Q S n (listed.setIfInBounds i true) (a.put oi.dst v) w→cG P md ops Q S (n+1) listed a w:=by
 have sel:=Region.noSelect_spec hsel
 intro n
 induction n with
 |zero=>
  intro listed a w hc hfree hr hy h0 h
  refine⟨fun e=>absurd hr (by rw[e];simp),fun j hj=>?_⟩
  by_cases e:j=i
  ·rw[e];exact hy.wpOp hi h0 ⟨UY _ h0,h⟩
  ·exact absurd (ready_mono hj e) (by rw[h.1];simp)
 |succ n ih=>
  intro listed a w hc hfree hr hy h0 h
  refine⟨fun e=>absurd hr (by rw[e];simp),fun j hj=>?_⟩
  by_cases e:j=i
  ·rw[e];exact hy.wpOp hi h0 ⟨UY _ h0,h⟩
  ·obtain⟨hun,oj,gh,aP⟩:=mem_ready.1 hj
   have hno:GS md ops i j:=fun o ho x hx hb he=>by
    rw[gh]at ho;cases ho
    have h1:=aP x hx hb
    have h2:=(mem_ready.1 hr).1
    rw[he]at h1
    rw[Array.getD_eq_getD_getElem?]at h1 h2
    cases hg:listed[i]? with
    |none=>rw[hg]at h1;simp at h1
    |some y=>rw[hg]at h1 h2;simp at h1 h2;rw[h2]at h1;cases h1
   have Sb:¬lg md ops i j:=fun hw=>by
    have h1:=hc.ready hj hw
    rw[(mem_ready.1 hr).1]at h1;cases h1
   refine wpOp_mono ?_ (wpOp_putIf gh (hfree j oj gh e hun hno) (fun cs b=>sel i oi cs b hi) (fun cs b=>sel j oj cs b gh) hQ hy (h.2 j (ready_mono hj e)))
   rintro a' w' ⟨hy',hs',wS⟩
   refine⟨hs',ih _ _ _ (hc.step hj) (fun k ok hk OX KW wU=>hfree k ok hk OX ?_ wU) (ready_mono hr (Ne.symm e)) hy' (hS j oj w w' gh e Sb h0 hs') (by rw[Array.setIfInBounds_comm _ _ e];exact wS)⟩
   by_cases KZ:j=k
   ·rw[←KZ];exact hun
   ·rw[←KW,getD_set_ne true KZ]
theorem cG.take{i:Nat}{oi:Oper}{v:Value}{n:Nat}{listed:Array Bool}{a:Act}{w:World}(hc:dP md ops listed)(hi:ops[i]? =some oi)(hsel:Region.noSelect ops=true)(hf:Region.free md ops listed i=true)
 (hr:(Region.ready md ops listed).contains i=true)(hQ:∀c a w,Q (.panic c) (a.put oi.dst v) w→Q (.panic c) a w)(UY:∀w,S0 w→S i w w)(hS:∀j oj w w',ops[j]? =some oj→j≠i→¬lg md ops i j→S0 w→S j w w'→S0 w')
 (hy:YieldsIf P ops S0 oi v a)(h0:S0 w)(h:cG P md ops Q S n (listed.setIfInBounds i true) (a.put oi.dst v) w):cG P md ops Q S (n+1) listed a w:=
 cG.first hi hsel hQ UY hS n listed a w hc (fun j oj h1 h2 h3 h4=>Region.free_spec hi hf j oj h1 h2 h3 (h4 oj h1)) (by simpa using hr) hy h0 h
theorem cG.all{rs:List Nat}{n:Nat}{listed:Array Bool}{a:Act}{w:World}(hr:Region.ready md ops listed=rs)(hne:rs≠[])
 (h:∀i∈rs,wpOp P ops Q i (fun a' w'=>S i w w'∧cG P md ops Q S n (listed.setIfInBounds i true) a' w') a w):cG P md ops Q S (n+1) listed a w:=
 ⟨fun h0=>absurd (hr▸h0) hne,hr▸h⟩
theorem cG.done{listed:Array Bool}{a:Act}{w:World}(hr:Region.ready md ops listed=[])(h:Q .normal a w):∀n,cG P md ops Q S n listed a w
 |0=>⟨hr,h⟩
 |_+1=>⟨fun _=>h,by rw[hr];simp⟩
def WA(j:Oper)(i:Nat):Bool:=j.after.toList.any fun e=>Nat.beq e.on i&&Region.binds .any e
def RF(P:Program):Op→Bool
 | .move _| .assign _| .pick .. | .nilCheck _| .fieldAddr .. | .field .. | .indexAddr .. | .unOp .. =>true
 | .slice t _ _ _ none=>match P.underlying t with|some (.slice _)=>true|_=>false
 | .binOp _ t _ _ _=>match P.underlying t with
  |some d=>match vk d with| .other=>false|_=>true
  |none=>true
 |_=>false
theorem wm{g:Gh}{o:Oper}(h:RF P o.op=true)(ρ:Operand→Value)(H H':Hp)(k:Value→Prop):x4 P g o ρ H k=x4 P g o ρ H' k:=by
 obtain⟨d,op,t,p,a,gd⟩:=o
 cases op<;>first|rfl|(simp only[RF]at h;first|cases h|skip)
 case binOp op t x y z=>
  simp only[x4]
  cases hu:P.underlying t with
  |none=>rfl
  |some d=>
   simp only[hu]at h
   cases hb:vk d<;>simp only[hb]at h⊢
   cases h
 case slice t x lo hi m=>
  cases m with
  |none=>
   simp only[x4]
   cases hu:P.underlying t with
   |none=>simp[hu]at h
   |some d=>cases d<;>first|rfl|(exfalso;simp[hu]at h)
  |some m=>cases h
def su(P:Program)(o:Op):Bool:=qH o&& !RF P o
def Cm(P:Program)(ops:Array Oper)(j:Nat):Bool:=match ops[j]? with
 |some oj=>(List.range ops.size).any fun i=>match ops[i]? with|some oi=>su P oi.op&& !WA oj i&& !Nat.beq i j|none=>false
 |none=>true
def mD(ops:Array Oper)(i:Nat):Nat→Nat→Bool
 |0,_=>false
 |n+1,j=>match ops[j]? with
  |some oj=>oj.after.toList.any fun e=>Region.binds .any e&& (Nat.beq e.on i||mD ops i n e.on)
  |none=>false
theorem oX{i:Nat}:∀{n j:Nat},mD ops i n j=true→lg .any ops i j
 |0,j,h=>by simp[mD]at h
 |n+1,j,h=>by
  unfold mD at h
  split at h
  ·rename_i oj gh
   obtain⟨e,he,h2⟩:=List.any_eq_true.1 h
   simp only[Bool.and_eq_true,Bool.or_eq_true]at h2
   rcases h2.2 with h3|h3
   ·exact .one gh (Array.mem_toList_iff.1 he) h2.1 (Nat.eq_of_beq_eq_true h3)
   ·exact .more gh (Array.mem_toList_iff.1 he) h2.1 (oX h3)
  ·cases h
def o7(P:Program)(ops:Array Oper)(j:Nat):Bool:=(List.range ops.size).any fun i=>match ops[i]? with|some oi=>su P oi.op&& !mD ops i 6 j&& !Nat.beq i j|none=>false
def mC(P:Program)(g:Gh)(R:Hp)(ops:Array Oper)(j:Nat)(w w':World):Prop:=∀oj,ops[j]? =some oj→(qH oj.op=true→w'=w)∧(qH oj.op=false→Own g [] w'∧(o7 P ops j=true→Own g R w→Own g R w'))
theorem jD{i j:Nat}{oi:Oper}(hi:ops[i]? =some oi)(hp:su P oi.op=true)(hne:j≠i)(h:¬lg .any ops i j):o7 P ops j=true:=by
 unfold o7
 rw[List.any_eq_true]
 refine⟨i,List.mem_range.2 (Array.getElem?_eq_some_iff.1 hi).1,?_⟩
 simp only[hi,hp,Bool.true_and,Bool.and_eq_true,Bool.not_eq_true']
 refine⟨?_,?_⟩
 ·cases hb:mD ops i 6 j
  ·rfl
  ·exact absurd (oX hb) h
 ·cases hb:Nat.beq i j
  ·rfl
  ·exact absurd (Nat.eq_of_beq_eq_true hb).symm hne
theorem qB{j:Nat}(h:o7 P ops j=true):Cm P ops j=true:=by
 unfold o7 at h
 obtain⟨i,hi,h2⟩:=List.any_eq_true.1 h
 unfold Cm
 split
 ·rename_i oj gh
  refine List.any_eq_true.2 ⟨i,hi,?_⟩
  split at h2
  ·rename_i oi lO
   simp only[Bool.and_eq_true,Bool.not_eq_true']at h2⊢
   refine⟨⟨h2.1.1,?_⟩,h2.2⟩
   cases hb:WA oj i
   ·rfl
   ·have h3:=h2.1.2
    unfold mD at h3
    simp only[gh]at h3
    unfold WA at hb
    obtain⟨e,he,h4⟩:=List.any_eq_true.1 hb
    rw[←Bool.not_eq_true,List.any_eq_true]at h3
    refine absurd ⟨e,he,?_⟩ h3
    simp only[Bool.and_eq_true,Bool.or_eq_true]at h4⊢
    exact⟨h4.2,.inl h4.1⟩
  ·cases h2
 ·rfl
end
end Go.Sx
namespace Go.Sx
open Go
section
variable {P:Program} {g:Gh} {ds:List Deferred}
def DC(b:Bool)(p q:Prop):Prop:=cond b (p∧q) q
theorem DC.of{b:Bool}{p q:Prop}(h:DC b p q):(b=true→p)∧q:=by
  cases b
  · exact⟨fun e=>(by cases e),h⟩
  · exact⟨fun _=>h.1,h.2⟩
def GW(P:Program)(ops:Array Oper)(T:List Nat)(i:Nat):Bool:=cond T.isEmpty (Cm P ops i) (o7 P ops i)
theorem GV{ops:Array Oper}{T:List Nat}{i:Nat}(h:o7 P ops i=true):GW P ops T i=true:=by
  unfold GW
  cases T.isEmpty
  · exact h
  · exact qB h
def EI(P:Program)(g:Gh)(n:Nat)(ops:Array Oper)(R:Hp)(K:Fr→Hp→Prop):List Nat→Array Bool→Fr→Hp→Prop
  | [],listed,fr,H=>cond (Region.ready .any ops listed).isEmpty (K fr H) False
  |i::r,listed,fr,H=>
    match ops[i]? with
    |none=>False
    |some o=>
      cond (dk n o.dst&&o.guard.isNone)
        (cond (qH o.op)
          (cond (Region.free .any ops listed i&& (Region.ready .any ops listed).contains i)
            (x4 P g o (ev fr) R fun v=>EI P g n ops R K r (listed.setIfInBounds i true) (bT fr o.dst v) H) False)
          (cond (Region.ready .any ops listed==[i])
            (Jx P g o (ev fr) H (fun v H'=>DC (Cm P ops i) (aU H' R) (EI P g n ops R K r (listed.setIfInBounds i true) (bT fr o.dst v) H')) (fun _ _=>False)) False)) False
def n7(Q:Exit→Act→World→Prop):Exit→Act→World→Prop
  | .panic _,_,_=>False
  |e,a,w=>Q e a w
theorem g9{o:Oper}(h:o.guard.isNone=true)(y:Nat→Option Bool):Region.wanted o y=true:=by
  unfold Region.wanted
  cases hg:o.guard<;>simp_all
theorem Own.jB{g:Gh}{H:Hp}{w:World}(h:Own g H w):Own g [] w:=Own.right (A:=H) (B:=[]) (by simpa using h)
theorem eR{listed:Array Bool}{i k:Nat}(hun:listed.getD i true=false)(h:(listed.setIfInBounds i true).getD k true=false):listed.getD k true=false:=by
  by_cases e:i=k
  · rw[←e];exact hun
  · rwa [getD_set_ne true e]at h
theorem nU{n:Nat}{ops:Array Oper}{R:Hp}{K:Fr→Hp→Prop}{Q:Exit→Act→World→Prop}(hs:Region.noSelect ops=true)(tF:Fr)
   (hk:∀a w fr H,bV ds n a fr→Own g H w→dr ops.toList tF fr→K fr H→Q .normal a w):
    ∀(l:List Nat) (listed:Array Bool) (fr:Fr) (H:Hp),EI P g n ops R K l listed fr H→∀(fuel:Nat),l.length≤fuel→dP .any ops listed→∀(a:Act) (w:World),bV ds n a fr→Own g H w→((∃k ok,ops[k]? =some ok∧su P ok.op=true∧listed.getD k true=false)→Own g R w)→dr ops.toList tF fr→
      cG P .any ops (n7 Q) (mC P g R ops) fuel listed a w
  | [],listed,fr,H,h=>by
    intro fuel _ gT a w ha hw hR ho
    unfold EI at h
    cases hr:(Region.ready .any ops listed).isEmpty<;>simp only[hr,cond_true,cond_false]at h
    exact cG.done (Q:=n7 Q) (by simpa using hr) (hk a w fr H ha hw ho h) fuel
  |i::r,listed,fr,H,h=>by
    intro fuel hfuel gT a w ha hw hR ho
    unfold EI at h
    split at h<;>try exact h.elim
    rename_i o lO
    have hmem:o∈ops.toList:=Array.mem_toList_iff.2 (Array.mem_of_getElem? lO)
    have hout:∀v,dr ops.toList tF (bT fr o.dst v):=fun v s hs'=>by
      rw[eG,ho s hs']
      have:∀l:List Oper,o∈l→bp l s=false→bp [({(default:Oper)with dst:=o.dst})] s=false:=by
        intro l
        induction l with
        |nil=>intro h;simp at h
        |cons x y ih=>
          intro hm hi
          rw[cO,Bool.or_eq_false_iff]at hi
          rcases List.mem_cons.1 hm with rfl|hm
          · exact hi.1
          · exact ih hm hi.2
      exact this _ hmem hs'
    cases hc:(dk n o.dst&&o.guard.isNone)<;>simp only[hc,cond_true,cond_false]at h
    simp only[Bool.and_eq_true]at hc
    obtain⟨fuel,rfl⟩:∃f,fuel=f+1:=⟨fuel-1,by simp only[List.length_cons]at hfuel;omega⟩
    have y7:r.length≤fuel:=by simp only[List.length_cons]at hfuel;omega
    cases uT:qH o.op<;>simp only[uT,cond_true,cond_false]at h
    case true=>
      cases jU:(Region.free .any ops listed i&& (Region.ready .any ops listed).contains i)<;>simp only[jU,cond_true,cond_false]at h
      simp only[Bool.and_eq_true]at jU
      have hun:=(mem_ready.1 (by simpa using jU.2:i∈Region.ready .any ops listed)).1
      have jg:∀w,mC P g R ops i w w:=fun w oj jY=>⟨fun _=>rfl,fun hn=>(by rw[lO]at jY;cases jY;rw[uT]at hn;cases hn)⟩
      cases hn:RF P o.op
      case true=>
        rw[wm hn (ev fr) R []]at h
        obtain⟨v,hk',hr⟩:=iY h
        refine cG.take gT (S0:=Own g []) lO hs jU.1 jU.2 (fun _ _ _ h=>h) (fun w _=>jg w) (fun j oj w w' gh hj hno h0 hk=>?_) (.inl ⟨g9 hc.2 _,fun w' cU=>by rw[ha.eval];exact hr w' cU⟩) hw.jB ?_
        · cases uQ:qH oj.op
          · exact((hk oj gh).2 uQ).1
          · rw[(hk oj gh).1 uQ];exact h0
        · refine nU hs tF hk r _ _ H hk' fuel y7 (gT.step (by simpa using jU.2)) _ w (ha.put hc.1 v) hw ?_ (hout v)
          rintro⟨k,ok,tB,qK,oe⟩
          exact hR ⟨k,ok,tB,qK,eR hun oe⟩
      case false=>
        obtain⟨v,hk',hr⟩:=iY h
        have hrd:su P o.op=true:=by simp[su,uT,hn]
        have SW:Own g R w:=hR ⟨i,o,lO,hrd,hun⟩
        refine cG.take gT (S0:=Own g R) lO hs jU.1 jU.2 (fun _ _ _ h=>h) (fun w _=>jg w) (fun j oj w w' gh hj hno h0 hk=>?_) (.inl ⟨g9 hc.2 _,fun w' cU=>by rw[ha.eval];exact hr w' cU⟩) SW ?_
        · cases uQ:qH oj.op
          · exact((hk oj gh).2 uQ).2 (jD lO hrd hj hno) h0
          · rw[(hk oj gh).1 uQ];exact h0
        · exact nU hs tF hk r _ _ H hk' fuel y7 (gT.step (by simpa using jU.2)) _ w (ha.put hc.1 v) hw (fun _=>SW) (hout v)
    case false=>
      cases jU:(Region.ready .any ops listed==[i])<;>simp only[jU,cond_true,cond_false]at h
      have hrd:=beq_iff_eq.1 jU
      have El:i∈Region.ready .any ops listed:=by rw[hrd];simp
      refine cG.all hrd (by simp) fun j hj=>?_
      simp only[List.mem_singleton]at hj
      subst hj
      unfold wpOp
      simp only[lO,g9 hc.2,if_true]
      refine .inl ?_
      unfold Oper.wp
      rw[ha.eval]
      refine(qy (lR fr) h w hw).upon (fun v H' w' ct hb=>?_) (fun ch H' w' _ h0=>h0.elim)
      obtain⟨he,hk'⟩:=hb.of
      refine⟨fun oj jY=>⟨fun hp=>(by rw[lO]at jY;cases jY;rw[uT]at hp;cases hp),fun _=>⟨ct.jB,fun hn _=>he (qB hn) _ _ ct⟩⟩,nU hs tF hk r _ _ H' hk' fuel y7 (gT.step El) _ w' (ha.put hc.1 v) ct ?_ (hout v)⟩
      rintro⟨k,ok,tB,qK,oe⟩
      refine he (qB ?_) _ _ ct
      have OX:j≠k:=fun e=>by
        subst e
        rw[Array.getD_eq_getD_getElem?,Array.getElem?_setIfInBounds_self]at oe
        have:=(mem_ready.1 El).1
        rw[Array.getD_eq_getD_getElem?]at this
        split at oe
        · simp at oe
        · rename_i hlt;rw[Array.getElem?_eq_none (by omega)]at this;simp at this
      rw[getD_set_ne true OX]at oe
      refine jD tB qK OX fun hw=>?_
      rw[gT.ready El hw]at oe;cases oe
abbrev Mk:=Obj×(Nat→Value)
def Jf(elem size bytes:Nat)(zero:Value)(l c:Value)(k:Mk→Prop):Prop:=
  ∃kl kc ln cn,l=.int kl (ln:Nat)∧c=.int kc (cn:Nat)∧ln≤cn∧(cn:Int)≤9223372036854775807∧cn*bytes≤281474976710656∧
    k (.cells (madeCells zero.cells (cn*size)) elem (0,0),fun b=>.slice (some ⟨b,0,none⟩) ln cn)
def Jn(P:Program)(t len:Nat)(parts:List (Nat×Value))(k:Mk→Prop):Prop:=
  ∃cs e n z,P.underlying t=some (.slice e)∧cN P e=some n∧dX P e=some z∧len*n≤2^24∧
      Instr.fill (fun i=>some (i*n,n)) ((Array.range (len*n)).map (z.cells[· %z.cells.size]!)) parts=some cs∧k (.cells cs e (0,0),fun b=>.slice (some ⟨b,0,none⟩) len len)
def Claim(P:Program)(o:Oper)(ρ:Operand→Value)(k:Mk→Prop):Prop:=
  match o.op with
  | .alloc t=>match dX P t with
    |some z=>k (.cells z.cells t (0,0),fun b=>.pointer (some ⟨b,0,none⟩))
    |none=>False
  | .makeMap _ none=>k (.map #[] 0,fun b=>.map (some b))
  | .makeSlice t l c=>match P.underlying t with
    |some (.slice e)=>match cN P e,rj P e,dX P e with
      |some n,some b,some z=>Jf e n b z (ρ l) (ρ c) k
      |_,_,_=>False
    |_=>False
  | .buildSlice t len parts=>Jn P t len (parts.toList.map fun p=>(p.1,ρ p.2)) k
  |_=>False
def tQ(P:Program)(o:Oper)(ρ:Operand→Value)(x:Mk):Prop:=∀w,(execOp ρ o).run P w=.ok (.value (x.2 w.heap.size)) (w.alloc x.1)
theorem Claim.makes{o:Oper}{ρ:Operand→Value}{k:Mk→Prop}(h:Claim P o ρ k):∃x,tQ P o ρ x∧k x:=by
  unfold Claim at h
  split at h
  · rename_i t hop
    split at h<;>try exact h.elim
    rename_i z hz
    obtain⟨i,hi,sB⟩:=cj hz
    refine⟨_,fun w=>?_,h⟩
    simp only[execOp,hop]
    simp[Instr.alloc,di hi sB,newVar,newRow]
  · rename_i t hop
    refine⟨_,fun w=>?_,h⟩
    simp only[execOp,hop]
    simp[Instr.makeMap]
  · rename_i t l c hop
    split at h<;>try exact h.elim
    rename_i e ht
    split at h<;>try exact h.elim
    rename_i n b z hn hb hz
    obtain⟨i,hi,hin⟩:=aZ hn
    obtain⟨i',hi',sB⟩:=cj hz
    obtain⟨i2,CJ,qM⟩:=kZ hb
    have e1:i'=i:=Option.some.inj (hi'.symm.trans hi)
    have e2:i2=i:=Option.some.inj (CJ.symm.trans hi)
    subst e1;subst e2
    obtain⟨kl,kc,ln,cn,hl,hc,hlc,bX,hby,hk⟩:=h
    subst hin;subst qM
    refine⟨_,fun w=>?_,hk⟩
    have e1:IntKind.i64.wrap (ln:Int)=ln:=IntWalk.i64_in _ (by omega)
    have e2:IntKind.i64.wrap (cn:Int)=cn:=IntWalk.i64_in _ (by omega)
    have e3:¬((i2.bytes:Int)*(cn:Int)>281474976710656):=by
      have:((cn*i2.bytes:Nat):Int)≤281474976710656:=by omega
      rw[Int.mul_comm];push_cast at this;omega
    have e4:¬((cn:Int)<ln):=by omega
    simp only[execOp,hop]
    by_cases h0:cn*i2.size=0
    · simp[Instr.makeSlice,run_underlying ht,asInt,asIntOf,typeInfo,hi,hl,hc,e1,e2,e3,e4,sizeOf,zeroValue,sB,newRow,madeCells,h0,show¬((cn:Int)<0)from by omega,show¬((ln:Int)<0)from by omega]
      have:Array.range 0=#[]:=rfl
      simp[this]
    · simp[Instr.makeSlice,run_underlying ht,asInt,asIntOf,typeInfo,hi,hl,hc,e1,e2,e3,e4,sizeOf,zeroValue,sB,newRow,madeCells,h0,show¬((cn:Int)<0)from by omega,show¬((ln:Int)<0)from by omega]
  · rename_i t len parts hop
    obtain⟨cs,e,n,z,ht,hn,hz,hl,hf,hk⟩:=h
    obtain⟨i,hi,hin⟩:=aZ hn
    obtain⟨i',hi',sB⟩:=cj hz
    have:i'=i:=Option.some.inj (hi'.symm.trans hi)
    subst this
    subst hin
    refine⟨_,fun w=>?_,hk⟩
    have hl':¬(len*i'.size>2^24):=by omega
    have Em:(parts.map fun(x:Nat×Operand)=>(x.1,ρ x.2)).toList=parts.toList.map fun p=>(p.1,ρ p.2):=by rw[Array.toList_map]
    by_cases h0:len*i'.size=0
    · simp only[execOp,hop,Instr.buildSlice,Sem.run_bind,run_underlying ht,Result.andThen_ok,run_sizeOf hi,hl',if_false,h0,if_true,Sem.run_pure]
      rw[h0]at hf
      have OK:Array.range 0=#[]:=rfl
      simp only[OK,Array.map_empty,List.map_toArray,List.map_nil]at hf⊢
      rw[Em,hf]
      simp[newRow]
    · simp only[execOp,hop,Instr.buildSlice,Sem.run_bind,run_underlying ht,Result.andThen_ok,run_sizeOf hi,hl',if_false,h0,di hi sB,Sem.run_pure]
      simp[hf,newRow]
  · exact h.elim
abbrev BR:=List (Nat×Mk)
def marks:BR→Nat→Array Bool→Array Bool
  | [],_,l=>l
  |x::r,i,l=>marks r i (cond (Nat.beq x.1 i) l (l.setIfInBounds x.1 true))
def dO(ops:Array Oper)(o:Oper)(i:Nat)(listed:Array Bool):BR→Bool
  | []=>true
  |x::r=>(Nat.beq x.1 i||listed.getD x.1 true||(match ops[x.1]? with|some of=>of.apart ops o|none=>false)) &&dO ops o i listed r
def ef:BR→Nat→Option Mk
  | [],_=>none
  |x::r,i=>cond (Nat.beq x.1 i) (some x.2) (ef r i)
def IY(listed:Array Bool):BR→Bool
  | []=>true
  |x::r=>listed.getD x.1 false&&IY listed r
inductive Hn
  |e
  |h(m:Nat)(L I:List Nat)(a b:Hn)
def Hn.m:Hn→Nat| .e=>0| .h m _ _ _ _=>m
def Hn.L:Hn→List Nat| .e=>[]| .h _ L _ _ _=>L
def Hn.I:Hn→List Nat| .e=>[]| .h _ _ I _ _=>I
def Hn.a:Hn→Hn| .e=>.e| .h _ _ _ a _=>a
def Hn.b:Hn→Hn| .e=>.e| .h _ _ _ _ b=>b
def Br(v:Value)(t f:Prop):Prop:=∃b,v=.bool b∧(b=true→t)∧(b=false→f)
def Ow(p:Oper)(fr:Fr):Value:=
  match p.op with
  | .move x=>ev fr x
  | .assign x=>ev fr x
  |_=>mL p fr
def Eh(p:Oper):Bool:=match p.op with| .pick .. =>true| .move _=>true| .assign _=>true|_=>false
theorem G8{p:Oper}{fr:Fr}{t:Bool}(hp:Eh p=true)(h:Ow p fr=.bool t)(w:World):(execOp (ev fr) p).run P w=.ok (.value (.bool t)) w:=by
  unfold Eh at hp
  unfold Ow at h
  split at h
  · rename_i x hop;simp only[execOp,hop,h];rfl
  · rename_i x hop;simp only[execOp,hop,h];rfl
  · rename_i h1 h2
    split at hp
    · rename_i hop;exact mK (by unfold oD;rw[hop]) h w
    · rename_i x hop;exact absurd hop (h1 x)
    · rename_i x hop;exact absurd hop (h2 x)
    · cases hp
theorem Hi{p:Oper}(hp:Eh p=true):qH p.op=true:=by
  unfold Eh at hp
  split at hp<;>first|(rename_i hop;rw[hop];rfl)|cases hp
def tW(ops:Array Oper)(fr:Fr)(o:Oper):Option Bool:=
  match o.guard with
  |none=>some true
  |some (j,want)=>match dz ops j with
    |none=>none
    |some s=>match fr s with
      | .bool b=>some (b==want)
      | .tuple _=>some false
      |_=>none
def mS(P:Program)(g:Gh)(n:Nat)(ops:Array Oper)(R:Hp)(K:Fr→Hp→Prop):Hn→BR→Array Bool→Fr→Hp→Prop
  | .e,cl,listed,fr,H=>cond ((Region.ready .any ops listed).isEmpty&&IY listed cl) (K fr H) False
  | .h m L T pa pb,cl,listed,fr,H=>
    match L with
    | [i]=>
      match ops[i]? with
      |none=>False
      |some o=>
        cond (Nat.beq m 1)
          (cond (dk n o.dst&&o.guard.isNone&& !qH o.op&& !listed.getD i true&&dO ops o i listed cl&& (match ef cl i with|none=>true|some _=>false))
            (Claim P o (ev fr) fun x=>mS P g n ops R K pa ((i,x)::cl) listed fr H) False)
          (cond (dk n o.dst&&dO ops o i listed cl&& (Region.ready .any ops listed).contains i)
            (match tW ops fr o with
            |none=>False
            |some false=>cond (Region.free .any ops listed i&& (match ef cl i with|none=>true|some _=>false)) (mS P g n ops R K pa cl (listed.setIfInBounds i true) (bT fr o.dst undef) H) False
            |some true=>
              cond (Nat.beq m 3) (cond (Eh o&&Region.free .any ops listed i) (match Ow o fr with
                | .bool b=>mS P g n ops R K pa cl (listed.setIfInBounds i true) (bT fr o.dst (.bool b)) H
                |_=>False) False)
              (cond (qH o.op)
                (cond (Region.free .any ops listed i)
                  (x4 P g o (ev fr) R fun v=>cond (Nat.beq m 0) (mS P g n ops R K pa cl (listed.setIfInBounds i true) (bT fr o.dst v) H)
                    (Br v (mS P g n ops R K pa cl (listed.setIfInBounds i true) (bT fr o.dst (.bool true)) H) (mS P g n ops R K pb cl (listed.setIfInBounds i true) (bT fr o.dst (.bool false)) H))) False)
                (cond (Region.ready .any ops (marks cl i listed)==[i])
                  (match ef cl i with
                    |some x=>bg H x.1 fun b H'=>mS P g n ops R K pa cl (listed.setIfInBounds i true) (bT fr o.dst (x.2 b)) H'
                    |none=>∀F,Jx P (g.add F) o (ev fr) H (fun v H'=>DC (GW P ops T i) (aU H' R) (mS P g n ops R K pa cl (listed.setIfInBounds i true) (bT fr o.dst v) H')) (fun _ _=>False)) False))) False)
    |_=>False
theorem Ix{cl:BR}{i:Nat}{x:Mk}(h:ef cl i=some x):(i,x)∈cl:=by
  induction cl with
  |nil=>simp[ef]at h
  |cons y r ih=>
    simp only[ef]at h
    cases hb:Nat.beq y.1 i<;>simp only[hb,cond_true,cond_false]at h
    · exact List.mem_cons_of_mem _ (ih h)
    · have:=Nat.eq_of_beq_eq_true hb
      simp only[Option.some.injEq]at h
      subst this;subst h;exact List.mem_cons_self
theorem ED{cl:BR}{i:Nat}(h:i∈cl.map Prod.fst):∃x,ef cl i=some x:=by
  induction cl with
  |nil=>simp at h
  |cons y r ih=>
    simp only[ef]
    cases hb:Nat.beq y.1 i
    · simp only[cond_false]
      rw[List.map_cons,List.mem_cons]at h
      rcases h with h|h
      · subst h;simp at hb
      · exact ih h
    · exact⟨_,rfl⟩
theorem gW{cl:BR}{i:Nat}{x:Mk}(h:ef cl i=some x):i∈cl.map Prod.fst:=List.mem_map.2 ⟨_,Ix h,rfl⟩
theorem tp{l:BR}{i:Nat}{b:Array Bool}{k:Nat}:(marks l i b)[k]? =if k∈l.map Prod.fst∧k≠i∧k<b.size then some true else b[k]? :=by
  induction l generalizing b with
  |nil=>simp[marks]
  |cons y r ih=>
    simp only[marks]
    cases hy:Nat.beq y.1 i
    · have hne:y.1≠i:=fun e=>by rw[e]at hy;simp at hy
      simp only[cond_false,ih,Array.size_setIfInBounds]
      by_cases hk:k∈r.map Prod.fst∧k≠i∧k<b.size
      · rw[if_pos hk,if_pos ⟨by rw[List.map_cons];exact List.mem_cons_of_mem _ hk.1,hk.2⟩]
      · rw[if_neg hk]
        by_cases e:y.1=k
        · subst e
          by_cases hlt:y.1<b.size
          · rw[if_pos ⟨by simp,hne,hlt⟩,Array.getElem?_setIfInBounds_self_of_lt hlt]
          · rw[if_neg (fun h=>hlt h.2.2),Array.getElem?_eq_none (by simp;omega),Array.getElem?_eq_none (by omega)]
        · rw[Array.getElem?_setIfInBounds_ne e,if_neg]
          rintro⟨h1,h2⟩
          rw[List.map_cons,List.mem_cons]at h1
          rcases h1 with h1|h1
          · exact e h1.symm
          · exact hk ⟨h1,h2⟩
    · have he:=Nat.eq_of_beq_eq_true hy
      simp only[cond_true,ih]
      by_cases hk:k∈r.map Prod.fst∧k≠i∧k<b.size
      · rw[if_pos hk,if_pos ⟨by rw[List.map_cons];exact List.mem_cons_of_mem _ hk.1,hk.2⟩]
      · rw[if_neg hk,if_neg]
        rintro⟨h1,h2,h3⟩
        rw[List.map_cons,List.mem_cons]at h1
        rcases h1 with h1|h1
        · exact h2 (h1.trans he)
        · exact hk ⟨h1,h2,h3⟩
theorem ew{ops:Array Oper}{o:Oper}{i:Nat}{listed:Array Bool}{l:BR}(h:dO ops o i listed l=true){f:Nat}(hf:f∈l.map Prod.fst)(hne:f≠i)(hun:listed.getD f true=false):
    ∃of,ops[f]? =some of∧of.apart ops o=true:=by
  induction l with
  |nil=>simp at hf
  |cons x r ih=>
    simp only[dO,Bool.and_eq_true,Bool.or_eq_true]at h
    rw[List.map_cons]at hf
    rcases List.mem_cons.1 hf with rfl|hf
    · rcases h.1 with(h1|h1)|h1
      · exact absurd (Nat.eq_of_beq_eq_true h1) hne
      · rw[hun]at h1;simp at h1
      · split at h1
        · rename_i of ho;exact⟨of,ho,h1⟩
        · simp at h1
    · exact ih h.2 hf
theorem zz{ops:Array Oper}{x y:Oper}(h:x.apart ops y=true):y.apart ops x=true:=by
  unfold Oper.apart at*
  cases hx:x.dst<;>cases hy:y.dst<;>simp_all
  exact fun e=>h.1.2 e.symm
theorem oK{ops:Array Oper}{l l':Array Bool}{i:Nat}(h:Region.free .any ops l i=true)(hm:∀k,l.getD k true=true→l'.getD k true=true):Region.free .any ops l' i=true:=by
  unfold Region.free at*
  split at h
  · simp at h
  · rename_i oi lO
    rw[List.all_eq_true]at h⊢
    intro j hj
    have:=h j hj
    simp only[Bool.or_eq_true]at this⊢
    rcases this with(h1|h1)|h1
    · exact .inl (.inl h1)
    · exact .inl (.inr (hm j h1))
    · exact .inr h1
abbrev Early:=List (Nat×Nat×Mk)
def M7(E:Early):Hp:=E.map fun x=>(x.2.1,x.2.2.1)
structure Qh(P:Program)(n:Nat)(ops:Array Oper)(listed:Array Bool)(cl:BR)(fr:Fr)(j:Nat)(x:Mk)(o:Oper):Prop where
  op:ops[j]? =some o
  wq:qH o.op=false
  dst:dk n o.dst=true
  gd:o.guard.isNone=true
  makes:tQ P o (ev fr) x
  U6:∀k y,ef cl k=some y→k≠j→listed.getD k true=false→∃ok,ops[k]? =some ok∧ok.apart ops o=true
structure jo(P:Program)(n:Nat)(ops:Array Oper)(cl:BR)(listed la:Array Bool)(E:Early)(fr fa:Fr):Prop where
  mem:∀x∈E,ef cl x.1=some x.2.2∧listed.getD x.1 true=false
  nd:(E.map Prod.fst).Nodup
  la:∀k,la[k]? =if k∈E.map Prod.fst then some true else listed[k]?
  out:∀s,(∀x∈E,dz ops x.1≠some s)→fa s=fr s
  at_:∀x∈E,∀d,dz ops x.1=some d→fa d=x.2.2.2 x.2.1
  cl:∀j x,ef cl j=some x→listed.getD j true=false→∃o,Qh P n ops listed cl fr j x o
section
variable {n:Nat} {ops:Array Oper} {cl:BR} {listed la:Array Bool} {E:Early} {fr fa:Fr}
theorem jo.more(h:jo P n ops cl listed la E fr fa){k:Nat}{b:Bool}(hk:listed.getD k b=true):la.getD k b=true:=by
  have:=h.la k
  rw[Array.getD_eq_getD_getElem?]at hk⊢
  rw[this]
  split
  · rfl
  · exact hk
theorem jo.ready(h:jo P n ops cl listed la E fr fa){i:Nat}(hi:i∉E.map Prod.fst)(hr:i∈Region.ready .any ops listed):i∈Region.ready .any ops la:=by
  rw[mem_ready]at hr⊢
  obtain⟨h1,o,ho,aP⟩:=hr
  refine⟨?_,o,ho,fun e he hb=>h.more (aP e he hb)⟩
  have:=h.la i
  rw[Array.getD_eq_getD_getElem?]at h1⊢
  rw[this,if_neg hi];exact h1
theorem Mf{i k:Nat}(h:(listed.setIfInBounds i true).getD k true=false):i≠k∧listed.getD k true=false:=by
  by_cases e:i=k
  · subst e
    rw[Array.getD_eq_getD_getElem?]at h
    rcases Nat.lt_or_ge i listed.size with hl|hl
    · rw[Array.getElem?_setIfInBounds_self_of_lt hl]at h;cases h
    · rw[Array.getElem?_eq_none (by simpa using hl)]at h;cases h
  · exact⟨e,by rwa [getD_set_ne true e]at h⟩
theorem tQ.congr{o o':Oper}{x:Mk}{v:Value}(h:tQ P o (ev fr) x)(hs:∀cs b,o.op≠.select cs b)(hap:o.apart ops o'=true):tQ P o (ev (bT fr o'.dst v)) x:=by
  have e:execOp (ev (bT fr o'.dst v)) o=execOp (ev fr) o:=by
    refine execOp_congr o hs fun y hy=>?_
    cases y with
    |tmp t=>
      obtain⟨_,_,h3⟩:=Oper.apart_spec hap
      cases hd:o'.dst with
      |none=>rfl
      |some d=>
        have:=h3 d hd
        have hne:Nat.beq t d=false:=by
          cases hb:Nat.beq t d
          · rfl
          · have e:=Nat.eq_of_beq_eq_true hb;subst e
            refine absurd ?_ this
            exact List.mem_append_left _ (List.mem_filterMap.2 ⟨Operand.tmp t,by simpa using hy,rfl⟩)
        simp only[ev,bT,hne,cond_false]
    |const v=>rfl
    |global g=>rfl
    |func f=>rfl
  intro w;rw[e];exact h w
theorem IF(hs:Region.noSelect ops=true)(fx:∀j x,ef cl j=some x→listed.getD j true=false→∃o,Qh P n ops listed cl fr j x o){i:Nat}{o:Oper}(hap:dO ops o i listed cl=true)(v:Value):
    ∀j x,ef cl j=some x→(listed.setIfInBounds i true).getD j true=false→∃oj,Qh P n ops (listed.setIfInBounds i true) cl (bT fr o.dst v) j x oj:=by
  intro j x hx hun
  obtain⟨hne,KW⟩:=Mf hun
  obtain⟨oj,h⟩:=fx j x hx KW
  obtain⟨oj',ct,XY⟩:=ew hap (gW hx) (Ne.symm hne) KW
  rw[h.op]at ct;cases ct
  exact⟨oj,h.op,h.wq,h.dst,h.gd,h.makes.congr (fun cs b=>Region.noSelect_spec hs j oj cs b h.op) XY,fun k y hk Qv HG=>h.U6 k y hk Qv (Mf HG).2⟩
theorem jo.step(hs:Region.noSelect ops=true)(h:jo P n ops cl listed la E fr fa){i:Nat}{o:Oper}(lO:ops[i]? =some o)(hi:i∉E.map Prod.fst)
   (qP:dO ops o i listed cl=true)(v:Value):jo P n ops cl (listed.setIfInBounds i true) (la.setIfInBounds i true) E (bT fr o.dst v) (bT fa o.dst v):=by
  have hap:∀x∈E,∃of,ops[x.1]? =some of∧of.apart ops o=true:=fun x hx=>
      ew qP (gW (h.mem x hx).1) (fun e=>hi (e▸List.mem_map_of_mem hx)) (h.mem x hx).2
  have hsz:la[i]? =listed[i]? :=by rw[h.la i,if_neg hi]
  refine⟨fun x hx=>⟨(h.mem x hx).1,?_⟩,h.nd,fun k=>?_,fun s hs=>?_,fun x hx d hd=>?_,IF hs h.cl qP v⟩
  · have hne:i≠x.1:=fun e=>hi (e▸List.mem_map_of_mem hx)
    rw[getD_set_ne true hne];exact(h.mem x hx).2
  · by_cases e:i=k
    · subst e
      rw[if_neg hi,Array.getElem?_setIfInBounds,Array.getElem?_setIfInBounds]
      simp only[if_true]
      have:i<la.size↔i<listed.size:=by
        constructor
        · intro hlt;rw[Array.getElem?_eq_getElem hlt]at hsz;exact(Array.getElem?_eq_some_iff.1 hsz.symm).1
        · intro hlt;rw[Array.getElem?_eq_getElem hlt]at hsz;exact(Array.getElem?_eq_some_iff.1 hsz).1
      by_cases hlt:i<la.size
      · rw[if_pos hlt,if_pos (this.1 hlt)]
      · rw[if_neg hlt,if_neg (fun x=>hlt (this.2 x))]
    · rw[Array.getElem?_setIfInBounds_ne e,Array.getElem?_setIfInBounds_ne e];exact h.la k
  · cases hd:o.dst with
    |none=>exact h.out s hs
    |some d=>
      simp only[bT]
      cases Nat.beq s d
      · exact h.out s hs
      · rfl
  · obtain⟨of,OM,hap⟩:=hap x hx
    obtain⟨h1,h2,h3⟩:=Oper.apart_spec hap
    have OL:of.dst=some d:=by simpa[dz,OM]using hd
    have:=h2 d OL
    cases XR:o.dst with
    |none=>exact h.at_ x hx d hd
    |some d'=>
      have hne:Nat.beq d d'=false:=by
        cases hb:Nat.beq d d'
        · rfl
        · have e:=Nat.eq_of_beq_eq_true hb;subst e;exact absurd XR this
      simp only[bT,hne,cond_false];exact h.at_ x hx d hd
theorem jo.exec(h:jo P n ops cl listed la E fr fa){o:Oper}
   (hap:∀x∈E,∃of,ops[x.1]? =some of∧of.apart ops o=true)(hs:∀cs b,o.op≠.select cs b):execOp (ev fa) o=execOp (ev fr) o:=by
  refine execOp_congr o hs fun x hx=>?_
  cases x with
  |tmp t=>
    refine h.out t fun y hy e=>?_
    obtain⟨of,OM,hap⟩:=hap y hy
    obtain⟨h1,_,_⟩:=Oper.apart_spec hap
    refine h1 t (by simpa[dz,OM]using e) ?_
    exact List.mem_append_left _ (List.mem_filterMap.2 ⟨.tmp t,by simpa using hx,rfl⟩)
  |const v=>rfl
  |global g=>rfl
  |func f=>rfl
theorem jo.early(h:jo P n ops cl listed la E fr fa){j b:Nat}{x:Mk}(hj:ef cl j=some x)(HI:j∉E.map Prod.fst)(hun:listed.getD j true=false)
   {o:Oper}(ho:ops[j]? =some o):jo P n ops cl listed (la.setIfInBounds j true) ((j,b,x)::E) fr (bT fa o.dst (x.2 b)):=by
  obtain⟨o',fx⟩:=h.cl j x hj hun
  have ct:=fx.op
  rw[ho]at ct;cases ct
  have Pc:∀y∈E,∃of,ops[y.1]? =some of∧of.apart ops o=true:=fun y hy=>
    fx.U6 y.1 _ (h.mem y hy).1 (fun e=>HI (e▸List.mem_map_of_mem hy)) (h.mem y hy).2
  have Xv:j<la.size:=by
    have hl:=h.la j
    rw[if_neg HI]at hl
    have h2:j<listed.size:=by
      rcases Nat.lt_or_ge j listed.size with h2|h2
      · exact h2
      · rw[Array.getD_eq_getD_getElem?,Array.getElem?_eq_none h2]at hun;simp at hun
    rw[Array.getElem?_eq_getElem h2]at hl
    exact(Array.getElem?_eq_some_iff.1 hl).1
  refine⟨fun y hy=>?_,?_,fun k=>?_,fun s hs=>?_,fun y hy d hd=>?_,h.cl⟩
  · rcases List.mem_cons.1 hy with rfl|hy
    · exact⟨hj,hun⟩
    · exact h.mem y hy
  · rw[List.map_cons,List.nodup_cons];exact⟨HI,h.nd⟩
  · by_cases e:j=k
    · subst e;rw[if_pos (by simp),Array.getElem?_setIfInBounds_self_of_lt Xv]
    · rw[Array.getElem?_setIfInBounds_ne e,h.la k]
      by_cases hk:k∈E.map Prod.fst
      · rw[if_pos hk,if_pos (by rw[List.map_cons];exact List.mem_cons_of_mem _ hk)]
      · rw[if_neg hk,if_neg]
        rw[List.map_cons,List.mem_cons]
        rintro(h1|hk')
        · exact e h1.symm
        · exact hk hk'
  · have hne:=hs (j,b,x) (by simp)
    simp only[dz,ho]at hne
    rw[show bT fa o.dst (x.2 b) s=fa s from ?_]
    · exact h.out s fun y hy=>hs y (by simp[hy])
    · cases hd:o.dst with
      |none=>rfl
      |some d=>
        rw[hd]at hne
        have:Nat.beq s d=false:=by
          cases hb:Nat.beq s d
          · rfl
          · exact absurd (congrArg some (Nat.eq_of_beq_eq_true hb).symm) hne
        simp only[bT,this,cond_false]
  · rcases List.mem_cons.1 hy with rfl|hy
    · simp only[dz,ho]at hd
      rw[hd];simp[bT]
    · obtain⟨of,OM,hap⟩:=Pc y hy
      obtain⟨_,h2,_⟩:=Oper.apart_spec hap
      have OL:of.dst=some d:=by simpa[dz,OM]using hd
      have:=h2 d OL
      cases XR:o.dst with
      |none=>exact h.at_ y hy d hd
      |some d'=>
        have hne:Nat.beq d d'=false:=by
          cases hb:Nat.beq d d'
          · rfl
          · have e:=Nat.eq_of_beq_eq_true hb;subst e;exact absurd XR this
        simp only[bT,hne,cond_false];exact h.at_ y hy d hd
theorem jo.uu(hs:Region.noSelect ops=true){E1 E2:Early}{j b:Nat}{x:Mk}(h:jo P n ops cl listed la (E1++(j,b,x)::E2) fr fa){o:Oper}(ho:ops[j]? =some o)(qP:dO ops o j listed cl=true):
    jo P n ops cl (listed.setIfInBounds j true) la (E1++E2) (bT fr o.dst (x.2 b)) fa:=by
  have iO:=h.nd
  rw[List.map_append,List.map_cons]at iO
  have OY:j∉(E1++E2).map Prod.fst:=by
    have:=(List.perm_middle.nodup_iff.1 iO)
    rw[List.nodup_cons]at this
    rw[List.map_append];exact this.1
  have hsub:∀y,y∈E1++E2→y∈E1++(j,b,x)::E2:=fun y hy=>by
    rcases List.mem_append.1 hy with hy|hy<;>simp[hy]
  have CI:j<listed.size:=by
    have h2:=(h.mem (j,b,x) (by simp)).2
    rcases Nat.lt_or_ge j listed.size with h3|h3
    · exact h3
    · simp only at h2;rw[Array.getD_eq_getD_getElem?,Array.getElem?_eq_none h3]at h2;simp at h2
  refine⟨fun y hy=>⟨(h.mem y (hsub y hy)).1,?_⟩,?_,fun k=>?_,fun s hs=>?_,fun y hy d hd=>h.at_ y (hsub y hy) d hd,IF hs h.cl qP _⟩
  · have hne:j≠y.1:=fun e=>OY (e▸List.mem_map_of_mem hy)
    rw[getD_set_ne true hne];exact(h.mem y (hsub y hy)).2
  · have:=(List.perm_middle.nodup_iff.1 iO)
    rw[List.nodup_cons]at this
    rw[List.map_append];exact this.2
  · have hk:=h.la k
    by_cases e:j=k
    · subst e
      rw[if_pos (by simp)]at hk
      rw[hk,if_neg OY,Array.getElem?_setIfInBounds_self_of_lt CI]
    · rw[Array.getElem?_setIfInBounds_ne e,hk]
      have:k∈(E1++(j,b,x)::E2).map Prod.fst↔k∈(E1++E2).map Prod.fst:=by
        simp only[List.map_append,List.map_cons,List.mem_append,List.mem_cons]
        constructor
        · rintro(h|rfl|h)
          · exact .inl h
          · exact absurd rfl e
          · exact .inr h
        · rintro(h|h)
          · exact .inl h
          · exact .inr (.inr h)
      simp only[this]
  · by_cases e:dz ops j=some s
    · rw[h.at_ (j,b,x) (by simp) s e]
      simp only[dz,ho]at e
      rw[e];simp[bT]
    · rw[h.out s fun y hy=>?_]
      · simp only[dz,ho]at e
        cases hd:o.dst with
        |none=>rfl
        |some d=>
          rw[hd]at e
          have:Nat.beq s d=false:=by
            cases hb:Nat.beq s d
            · rfl
            · exact absurd (congrArg some (Nat.eq_of_beq_eq_true hb).symm) e
          simp only[bT,this,cond_false]
      · rcases List.mem_append.1 hy with hy|hy
        · exact hs y (by simp[hy])
        · rcases List.mem_cons.1 hy with rfl|hy
          · exact e
          · exact hs y (by simp[hy])
theorem jo.TD(h:jo P n ops cl listed la E fr fa){i:Nat}{o:Oper}{x:Mk}(ho:ops[i]? =some o)(hd:dk n o.dst=true)(hg:o.guard.isNone=true)(hp:qH o.op=false)(hun:listed.getD i true=false)
   (hap:dO ops o i listed cl=true)(hno:ef cl i=none)(hm:tQ P o (ev fr) x):jo P n ops ((i,x)::cl) listed la E fr fa:=by
  have hne:∀j y,ef cl j=some y→j≠i:=fun j y hj e=>by subst e;rw[hno]at hj;cases hj
  have hex:∀j y,ef cl j=some y→ef ((i,x)::cl) j=some y:=fun j y hj=>by
    have:Nat.beq i j=false:=by
      cases hb:Nat.beq i j
      · rfl
      · exact absurd (Nat.eq_of_beq_eq_true hb).symm (hne j y hj)
    simp only[ef,this,cond_false];exact hj
  have O5:∀j y,ef ((i,x)::cl) j=some y→(j=i∧y=x)∨(j≠i∧ef cl j=some y):=fun j y hj=>by
    simp only[ef]at hj
    cases hb:Nat.beq i j<;>simp only[hb,cond_true,cond_false]at hj
    · exact .inr ⟨fun e=>by subst e;simp at hb,hj⟩
    · exact .inl ⟨(Nat.eq_of_beq_eq_true hb).symm,by simpa using hj.symm⟩
  refine⟨fun y hy=>⟨hex _ _ (h.mem y hy).1,(h.mem y hy).2⟩,h.nd,h.la,h.out,h.at_,fun j y hj hu=>?_⟩
  rcases O5 j y hj with⟨rfl,rfl⟩|⟨Sk,UO⟩
  · refine⟨o,ho,hp,hd,hg,hm,fun k z hk Qv HG=>?_⟩
    rcases O5 k z hk with⟨rfl,rfl⟩|⟨_,hk⟩
    · exact absurd rfl Qv
    · exact ew hap (gW hk) Qv HG
  · obtain⟨oj,hc⟩:=h.cl j y UO hu
    refine⟨oj,hc.op,hc.wq,hc.dst,hc.gd,hc.makes,fun k z hk Qv HG=>?_⟩
    rcases O5 k z hk with⟨rfl,rfl⟩|⟨_,hk⟩
    · obtain⟨oj',h1,h2⟩:=ew hap (gW UO) Sk hu
      rw[hc.op]at h1;cases h1
      exact⟨o,ho,zz h2⟩
    · exact hc.U6 k z hk Qv HG
end
theorem EF{E1 E2:Early}{y:Nat×Nat×Mk}:(M7 (E1++y::E2)).Perm ((y.2.1,y.2.2.1)::M7 (E1++E2)):=by
  unfold M7
  rw[List.map_append,List.map_cons,List.map_append]
  exact List.perm_middle
def cnt:List Bool→Nat
  | []=>0
  |b::r=>cond b 0 1+cnt r
theorem Dd:∀(l:List Bool) (i:Nat),l[i]? =some false→cnt (l.set i true)+1=cnt l
  | [],i,h=>by simp at h
  |b::r,0,h=>by simp only[List.getElem?_cons_zero,Option.some.injEq]at h;subst h;simp only[List.set_cons_zero,cnt,cond_true,cond_false];omega
  |b::r,i+1,h=>by
    simp only[List.getElem?_cons_succ]at h
    have:=Dd r i h
    simp only[List.set_cons_succ,cnt];omega
theorem sE(n:Nat):cnt (List.replicate n false)=n:=by
  induction n with
  |zero=>rfl
  |succ n ih=>simp only[List.replicate_succ,cnt,ih,cond_false];omega
theorem eC{a:Array Bool}{i:Nat}(h:a.getD i true=false):a[i]? =some false:=by
  rw[Array.getD_eq_getD_getElem?]at h
  cases hg:a[i]? with
  |none=>rw[hg]at h;simp at h
  |some b=>rw[hg]at h;simpa using h
theorem kY{a:Array Bool}{i fuel:Nat}(h:a.getD i true=false)(hf:cnt a.toList≤fuel):∃f,fuel=f+1∧cnt (a.setIfInBounds i true).toList≤f:=by
  have h1:=eC h
  have h2:a.toList[i]? =some false:=by rw[Array.getElem?_toList];exact h1
  have:=Dd _ _ h2
  refine⟨fuel-1,by omega,?_⟩
  have:(a.setIfInBounds i true).toList=a.toList.set i true:=by simp
  rw[this];omega
theorem EP{listed:Array Bool}{l:BR}(h:IY listed l=true){f:Nat}(hf:f∈l.map Prod.fst):listed.getD f false=true:=by
  induction l with
  |nil=>simp at hf
  |cons x r ih=>
    simp only[IY,Bool.and_eq_true]at h
    rw[List.map_cons]at hf
    rcases List.mem_cons.1 hf with rfl|hf
    · exact h.1
    · exact ih h.2 hf
theorem Lw{a:Array Bool}{i:Nat}(h:a.getD i false=true):a.getD i true=true:=by
  rw[Array.getD_eq_getD_getElem?]at*
  cases hg:a[i]? with
  |none=>rfl
  |some b=>rw[hg]at h;simpa using h
theorem dM{n:Nat}{ops:Array Oper}{R:Hp}{K:Fr→Hp→Prop}{Q:Exit→Act→World→Prop}(hs:Region.noSelect ops=true)(tF:Fr)
   (hk:∀a w fr H,bV ds n a fr→Own g H w→dr ops.toList tF fr→K fr H→Q .normal a w):
    ∀(fuel:Nat) (l:Hn) (cl:BR) (listed:Array Bool) (fr:Fr) (H:Hp),mS P g n ops R K l cl listed fr H→∀(E:Early) (la:Array Bool) (fa:Fr),cnt la.toList≤fuel→jo P n ops cl listed la E fr fa→dP .any ops la→
      ∀(a:Act) (w:World),bV ds n a fa→Own (g.add (M7 E)) H w→((∃k ok,ops[k]? =some ok∧su P ok.op=true∧la.getD k true=false)→Own g R w)→dr ops.toList tF fr→
      cG P .any ops (n7 Q) (mC P g R ops) fuel la a w
  |fuel,.e,cl,listed,fr,H,h=>by
    intro E la fa hfuel hE gT a w ha hw hR ho
    unfold mS at h
    cases hr:((Region.ready .any ops listed).isEmpty&&IY listed cl)<;>simp only[hr,cond_true,cond_false]at h
    simp only[Bool.and_eq_true]at hr
    have hr':Region.ready .any ops listed=[]:=by simpa using hr.1
    have hE0:E=[]:=by
      cases E with
      |nil=>rfl
      |cons x y=>
        have h1:=hE.mem x (by simp)
        have h2:=Lw (EP hr.2 (gW h1.1))
        rw[h1.2]at h2;cases h2
    subst hE0
    have XO:fa=fr:=by funext s;exact hE.out s (by simp)
    subst XO
    refine cG.done (Q:=n7 Q) ?_ (hk a w fa H ha hw ho h) fuel
    rw[List.eq_nil_iff_forall_not_mem]at hr'⊢
    intro k hk'
    refine hr' k ?_
    rw[mem_ready]at hk'⊢
    obtain⟨h1,o,h2,h3⟩:=hk'
    have hla:=fun k=>hE.la k
    simp only[List.map_nil,List.not_mem_nil,if_false]at hla
    refine⟨?_,o,h2,fun e he hb=>?_⟩
    · rw[Array.getD_eq_getD_getElem?,←hla,←Array.getD_eq_getD_getElem?];exact h1
    · rw[Array.getD_eq_getD_getElem?,←hla,←Array.getD_eq_getD_getElem?];exact h3 e he hb
  |fuel,.h m L T pa pb,cl,listed,fr,H,h=>by
    intro E la fa hfuel hE gT a w ha hw hR ho
    have h0:=h
    unfold mS at h
    split at h<;>try exact h.elim
    rename_i i
    split at h<;>try exact h.elim
    rename_i o lO
    cases h1:Nat.beq m 1<;>simp only[h1,cond_true,cond_false]at h
    case true=>
      cases hc:(dk n o.dst&&o.guard.isNone&& !qH o.op&& !listed.getD i true&&dO ops o i listed cl&& (match ef cl i with|none=>true|some _=>false))<;>simp only[hc,cond_true,cond_false]at h
      simp only[Bool.and_eq_true,Bool.not_eq_true']at hc
      obtain⟨⟨⟨⟨⟨hd,hg⟩,hp⟩,hun⟩,hap⟩,hno⟩:=hc
      have wU:ef cl i=none:=by
        split at hno
        · assumption
        · cases hno
      obtain⟨x,hm,hk'⟩:=h.makes
      exact dM hs tF hk fuel pa _ listed fr H hk' E la fa hfuel (hE.TD lO hd hg hp hun hap wU hm) gT a w ha hw hR ho
    have hmem:o∈ops.toList:=Array.mem_toList_iff.2 (Array.mem_of_getElem? lO)
    have hout:∀v,dr ops.toList tF (bT fr o.dst v):=fun v s hs'=>by
      rw[eG,ho s hs']
      have:∀l:List Oper,o∈l→bp l s=false→bp [({(default:Oper)with dst:=o.dst})] s=false:=by
        intro l
        induction l with
        |nil=>intro h;simp at h
        |cons x y ih=>
          intro hm hi
          rw[cO,Bool.or_eq_false_iff]at hi
          rcases List.mem_cons.1 hm with rfl|hm
          · exact hi.1
          · exact ih hm hi.2
      exact this _ hmem hs'
    cases hc:(dk n o.dst&&dO ops o i listed cl&& (Region.ready .any ops listed).contains i)<;>simp only[hc,cond_true,cond_false]at h
    simp only[Bool.and_eq_true]at hc
    obtain⟨⟨hd,qP⟩,Xh⟩:=hc
    have El:i∈Region.ready .any ops listed:=by simpa using Xh
    have hun:=(mem_ready.1 El).1
    have hap:i∉E.map Prod.fst→∀x∈E,∃of,ops[x.1]? =some of∧of.apart ops o=true:=fun hi x hx=>
      ew qP (gW (hE.mem x hx).1) (fun e=>hi (e▸List.mem_map_of_mem hx)) (hE.mem x hx).2
    have hsel:∀cs b,o.op≠.select cs b:=fun cs b=>Region.noSelect_spec hs i o cs b lO
    have Ra:∀j,j∈Region.ready .any ops la→j∉E.map Prod.fst∧listed.getD j true=false:=fun j hj=>by
      have h1:=eC (mem_ready.1 hj).1
      have h2:=hE.la j
      by_cases HI:j∈E.map Prod.fst
      · rw[if_pos HI,h1]at h2;cases h2
      · rw[if_neg HI,h1]at h2
        exact⟨HI,by rw[Array.getD_eq_getD_getElem?,←h2];rfl⟩
    have early:∀f',fuel=f'+1→(∀j,la.getD j true=false→cnt (la.setIfInBounds j true).toList≤f')→∀j x,j∈Region.ready .any ops la→ef cl j=some x→
        wpOp P ops (n7 Q) j (fun a' w'=>mC P g R ops j w w'∧cG P .any ops (n7 Q) (mC P g R ops) f' (la.setIfInBounds j true) a' w') a w:=by
      intro f' wW j3 j x hj UN
      obtain⟨HI,CI⟩:=Ra j hj
      obtain⟨oj,fx⟩:=hE.cl j x UN CI
      have gh:=fx.op
      have uQ:=fx.wq
      have hgj:=fx.gd
      have XP:execOp (ev fa) oj=execOp (ev fr) oj:=hE.exec (fun y hy=>fx.U6 y.1 _ (hE.mem y hy).1 (fun e=>HI (e▸List.mem_map_of_mem hy)) (hE.mem y hy).2) (fun cs b=>Region.noSelect_spec hs j oj cs b gh)
      unfold wpOp
      simp only[gh,g9 hgj,if_true]
      refine .inl ?_
      unfold Oper.wp
      rw[ha.eval,XP,fx.makes w]
      simp only[Oper.upon]
      have HZ:∀{A:Hp},Own g A w→Own g A (w.alloc x.1):=fun hA=>(hA.alloc x.1).tail
      refine⟨fun oj' jY=>⟨fun hp=>?_,fun _=>⟨HZ (Own.dZ.2 hw).jB,fun _ h1=>HZ h1⟩⟩,?_⟩
      · rw[gh]at jY;cases jY;rw[uQ]at hp;cases hp
      · have JK:=hE.early (b:=w.heap.size) UN HI CI gh
        refine dM hs tF hk f' (.h m [i] T pa pb) cl listed fr H h0 ((j,w.heap.size,x)::E) _ _ (j3 j (mem_ready.1 hj).1) JK (gT.step hj) _ _ (ha.put fx.dst _) ?_ ?_ ho
        · have h1:=hw.alloc x.1
          have h2:Own (g.add (M7 E)) (H++[(w.heap.size,x.1)]) (w.alloc x.1):=h1.perm (by exact(List.perm_append_comm (l₁:=[(w.heap.size,x.1)]) (l₂:=H)))
          have h3:=Own.dZ.1 h2
          exact h3
        · rintro⟨k,ok,tB,qK,oe⟩
          refine HZ (hR ⟨k,ok,tB,qK,eR (mem_ready.1 hj).1 oe⟩)
    have mq:∀b,tW ops fr o=some b→i∉E.map Prod.fst→Region.wanted o (yielded ops a.tmps)=b:=by
      intro b hb qN
      unfold tW at hb
      unfold Region.wanted
      split at hb
      · rename_i hg;simp only[hg];simpa using hb
      · rename_i j want hg
        simp only[hg]
        split at hb<;>try (cases hb;done)
        rename_i s ik
        rw[jw ha ik]
        have mr:fa s=fr s:=hE.out s fun y hy e=>by
          obtain⟨of,OM,hap⟩:=hap qN y hy
          obtain⟨h1,_,_⟩:=Oper.apart_spec hap
          refine h1 s (by simpa[dz,OM]using e) ?_
          refine List.mem_append_right _ ?_
          rw[hg]
          unfold dz at ik
          cases hj:ops[j]? with
          |none=>rw[hj]at ik;cases ik
          |some oj=>rw[hj]at ik;simp only at ik;simp[hj,ik]
        rw[mr]
        split at hb
        · rename_i c hc;rw[hc];simp only[Option.some.injEq]at hb;subst hb;cases c<;>cases want<;>rfl
        · rename_i c hc;rw[hc];simp only[Option.some.injEq]at hb;subst hb;cases want<;>rfl
        · cases hb
    split at h<;>try exact h.elim
    · -- not wanted
      rename_i W6
      cases jU:(Region.free .any ops listed i&& (match ef cl i with|none=>true|some _=>false))<;>simp only[jU,cond_true,cond_false]at h
      simp only[Bool.and_eq_true]at jU
      have wU:ef cl i=none:=by
        have:=jU.2
        split at this
        · assumption
        · cases this
      have qN:i∉E.map Prod.fst:=fun hm=>by
        obtain⟨x,hx,e⟩:=List.mem_map.1 hm
        have:=(hE.mem x hx).1
        rw[e,wU]at this;cases this
      have jJ:=hE.ready qN El
      have oE:=(mem_ready.1 jJ).1
      obtain⟨f',rfl,j3⟩:=kY oE hfuel
      have hfree:=oK (l':=la) jU.1 (fun k hk=>hE.more hk)
      have Ev:(Region.ready .any ops la).contains i=true:=by simpa using jJ
      refine cG.take gT (S0:=Own g []) lO hs hfree Ev (fun _ _ _ h=>h) (fun w hw oj gh=>⟨fun _=>rfl,fun _=>⟨hw,fun _ h=>h⟩⟩) (fun j oj w w' gh hj hno h0 hk=>?_) (.inr ⟨mq false W6 qN,rfl⟩) (Own.dZ.2 hw).jB ?_
      · cases uQ:qH oj.op
        · exact((hk oj gh).2 uQ).1
        · rw[(hk oj gh).1 uQ];exact h0
      · refine dM hs tF hk f' pa cl _ _ H h E _ _ j3 (hE.step hs lO qN qP _) (gT.step jJ) _ w (ha.put hd _) hw ?_ (hout _)
        rintro⟨k,ok,tB,qK,oe⟩
        exact hR ⟨k,ok,tB,qK,eR oE oe⟩
    rename_i W6
    have UQ:=mq true W6
    have MK:∀v f' G7 a' w',(cond (Nat.beq m 0) (mS P g n ops R K pa cl (listed.setIfInBounds i true) (bT fr o.dst v) H)
                    (Br v (mS P g n ops R K pa cl (listed.setIfInBounds i true) (bT fr o.dst (.bool true)) H) (mS P g n ops R K pb cl (listed.setIfInBounds i true) (bT fr o.dst (.bool false)) H)))→
        cnt G7.toList≤f'→jo P n ops cl (listed.setIfInBounds i true) G7 E (bT fr o.dst v) (bT fa o.dst v)→dP .any ops G7→bV ds n a' (bT fa o.dst v)→Own (g.add (M7 E)) H w'→
        ((∃k ok,ops[k]? =some ok∧su P ok.op=true∧G7.getD k true=false)→Own g R w')→f'<fuel→cG P .any ops (n7 Q) (mC P g R ops) f' G7 a' w':=by
      intro v f' G7 a' w' hv h1 h2 HU h3 h4 h5 hlt
      cases hm:Nat.beq m 0<;>simp only[hm,cond_true,cond_false]at hv
      · obtain⟨b,rfl,SK,MN⟩:=hv
        cases b
        · exact dM hs tF hk f' pb cl _ _ H (MN rfl) E G7 _ h1 h2 HU a' w' h3 h4 h5 (hout _)
        · exact dM hs tF hk f' pa cl _ _ H (SK rfl) E G7 _ h1 h2 HU a' w' h3 h4 h5 (hout _)
      · exact dM hs tF hk f' pa cl _ _ H hv E G7 _ h1 h2 HU a' w' h3 h4 h5 (hout _)
    cases h3:Nat.beq m 3<;>simp only[h3,cond_true,cond_false]at h
    case true=>
      cases jU:(Eh o&&Region.free .any ops listed i)<;>simp only[jU,cond_true,cond_false]at h
      simp only[Bool.and_eq_true]at jU
      split at h<;>try exact h.elim
      rename_i b RX
      have uT:qH o.op=true:=Hi jU.1
      have qN:i∉E.map Prod.fst:=fun hm=>by
        obtain⟨x,hx,e⟩:=List.mem_map.1 hm
        have h2:=hE.mem x hx
        obtain⟨o',fx⟩:=hE.cl _ _ h2.1 h2.2
        have h3:=fx.op
        rw[e,lO]at h3;cases h3
        have:=fx.wq
        rw[uT]at this;cases this
      have jJ:=hE.ready qN El
      have oE:=(mem_ready.1 jJ).1
      obtain⟨f',rfl,j3⟩:=kY oE hfuel
      have hfree:=oK (l':=la) jU.2 (fun k hk=>hE.more hk)
      have Ev:(Region.ready .any ops la).contains i=true:=by simpa using jJ
      have jg:∀w,mC P g R ops i w w:=fun w oj jY=>⟨fun _=>rfl,fun hn=>(by rw[lO]at jY;cases jY;rw[uT]at hn;cases hn)⟩
      have Et:=hE.exec (hap qN) hsel
      refine cG.take gT (S0:=Own g []) lO hs hfree Ev (fun _ _ _ h=>h) (fun w _=>jg w) (fun j oj w w' gh hj hno h0 hk=>?_) (.inl ⟨UQ qN,fun w' cU=>by rw[ha.eval,Et];exact G8 jU.1 RX w'⟩) (Own.dZ.2 hw).jB ?_
      · cases uQ:qH oj.op
        · exact((hk oj gh).2 uQ).1
        · rw[(hk oj gh).1 uQ];exact h0
      · refine dM hs tF hk f' pa cl _ _ H h E _ _ j3 (hE.step hs lO qN qP _) (gT.step jJ) _ w (ha.put hd _) hw ?_ (hout _)
        rintro⟨k,ok,tB,qK,oe⟩
        exact hR ⟨k,ok,tB,qK,eR oE oe⟩
    cases uT:qH o.op<;>simp only[uT,cond_true,cond_false]at h
    case true=>
      cases jU:(Region.free .any ops listed i)<;>simp only[jU,cond_true,cond_false]at h
      have qN:i∉E.map Prod.fst:=fun hm=>by
        obtain⟨x,hx,e⟩:=List.mem_map.1 hm
        have h2:=hE.mem x hx
        obtain⟨o',fx⟩:=hE.cl _ _ h2.1 h2.2
        have h3:=fx.op
        rw[e,lO]at h3;cases h3
        have:=fx.wq
        rw[uT]at this;cases this
      have jJ:=hE.ready qN El
      have oE:=(mem_ready.1 jJ).1
      obtain⟨f',rfl,j3⟩:=kY oE hfuel
      have hfree:=oK (l':=la) jU (fun k hk=>hE.more hk)
      have Ev:(Region.ready .any ops la).contains i=true:=by simpa using jJ
      have jg:∀w,mC P g R ops i w w:=fun w oj jY=>⟨fun _=>rfl,fun hn=>(by rw[lO]at jY;cases jY;rw[uT]at hn;cases hn)⟩
      have hst:=fun v=>hE.step hs lO qN qP v
      have Et:=hE.exec (hap qN) hsel
      cases hn:RF P o.op
      case true=>
        rw[wm hn (ev fr) R []]at h
        obtain⟨v,hk',hr⟩:=iY h
        refine cG.take gT (S0:=Own g []) lO hs hfree Ev (fun _ _ _ h=>h) (fun w _=>jg w) (fun j oj w w' gh hj hno h0 hk=>?_) (.inl ⟨UQ qN,fun w' cU=>by rw[ha.eval,Et];exact hr w' cU⟩) (Own.dZ.2 hw).jB ?_
        · cases uQ:qH oj.op
          · exact((hk oj gh).2 uQ).1
          · rw[(hk oj gh).1 uQ];exact h0
        · refine MK v f' _ _ w hk' j3 (hst v) (gT.step jJ) (ha.put hd v) hw ?_ (by omega)
          rintro⟨k,ok,tB,qK,oe⟩
          exact hR ⟨k,ok,tB,qK,eR oE oe⟩
      case false=>
        obtain⟨v,hk',hr⟩:=iY h
        have hrd:su P o.op=true:=by simp[su,uT,hn]
        have SW:Own g R w:=hR ⟨i,o,lO,hrd,oE⟩
        refine cG.take gT (S0:=Own g R) lO hs hfree Ev (fun _ _ _ h=>h) (fun w _=>jg w) (fun j oj w w' gh hj hno h0 hk=>?_) (.inl ⟨UQ qN,fun w' cU=>by rw[ha.eval,Et];exact hr w' cU⟩) SW ?_
        · cases uQ:qH oj.op
          · exact((hk oj gh).2 uQ).2 (jD lO hrd hj hno) h0
          · rw[(hk oj gh).1 uQ];exact h0
        · exact MK v f' _ _ w hk' j3 (hst v) (gT.step jJ) (ha.put hd v) hw (fun _=>SW) (by omega)
    case false=>
      cases jU:(Region.ready .any ops (marks cl i listed)==[i])<;>simp only[jU,cond_true,cond_false]at h
      have hrd:=beq_iff_eq.1 jU
      by_cases qN:i∈E.map Prod.fst
      · obtain⟨⟨i',b,x⟩,hx,e⟩:=List.mem_map.1 qN
        simp only at e;subst e
        have hex:ef cl i'=some x:=(hE.mem _ hx).1
        simp only[hex]at h
        obtain⟨E1,E2,rfl⟩:=List.append_of_mem hx
        have js:Own (g.add (M7 (E1++E2))) ((b,x.1)::H) w:=by
          have h1:=(Own.dZ.2 hw).perm ((List.Perm.append_left H (EF (E1:=E1) (E2:=E2) (y:=(i',b,x)))).trans List.perm_middle)
          exact(Own.dZ (A:=(b,x.1)::H)).1 h1
        have hb:b∉H.map Prod.fst:=by
          have:=js.nd
          rw[List.cons_append,List.map_cons,List.nodup_cons,List.map_append,List.mem_append]at this
          exact fun h=>this.1 (.inl h)
        exact dM hs tF hk fuel pa cl _ _ _ (h b hb) (E1++E2) la fa hfuel (hE.uu hs lO qP) gT a w ha js hR (hout _)
      · have jJ:=hE.ready qN El
        have oE:=(mem_ready.1 jJ).1
        obtain⟨f',rfl,j3⟩:=kY oE hfuel
        have SF:∀j,la.getD j true=false→cnt (la.setIfInBounds j true).toList≤f':=fun j hj=>by
          obtain⟨f2,h1,h2⟩:=kY hj hfuel
          have:f2=f':=by omega
          subst this;exact h2
        have hst:=fun v=>hE.step hs lO qN qP v
        have Et:=hE.exec (hap qN) hsel
        refine cG.all rfl (fun e=>by rw[e]at jJ;simp at jJ) fun j hj=>?_
        by_cases Sk:j=i
        · subst Sk
          have wq:∀oj,ops[j]? =some oj→qH oj.op=true→False:=fun oj gh hp=>by rw[lO]at gh;cases gh;rw[uT]at hp;cases hp
          unfold wpOp
          simp only[lO,UQ qN,if_true]
          refine .inl ?_
          unfold Oper.wp
          rw[ha.eval,Et]
          cases hex:ef cl j with
          |none=>
            simp only[hex]at h
            have h:=h (M7 E)
            refine(qy (lR fr) h w hw).upon (fun v H' w' ct hb=>?_) (fun ch H' w' _ h0=>h0.elim)
            obtain⟨he,hk'⟩:=hb.of
            have SV:o7 P ops j=true→Own g R w':=fun hn=>(Own.dZ.2 (he (GV hn) _ _ ct)).left
            refine⟨fun oj jY=>⟨fun hp=>(wq oj jY hp).elim,fun _=>⟨(Own.dZ.2 ct).jB,fun hn _=>SV hn⟩⟩,dM hs tF hk f' pa cl _ _ H' hk' E _ _ j3 (hst v) (gT.step jJ) _ w' (ha.put hd v) ct ?_ (hout v)⟩
            rintro⟨k,ok,tB,qK,oe⟩
            refine SV ?_
            have OX:j≠k:=fun e=>by
              subst e
              have h1:=eC oE
              have hlt:=(Array.getElem?_eq_some_iff.1 h1).1
              rw[Array.getD_eq_getD_getElem?,Array.getElem?_setIfInBounds_self_of_lt hlt]at oe
              cases oe
            rw[getD_set_ne true OX]at oe
            refine jD tB qK OX fun hw=>?_
            rw[gT.ready jJ hw]at oe;cases oe
          |some x=>
            simp only[hex]at h
            obtain⟨oj,fx⟩:=hE.cl j x hex hun
            have gh:=fx.op
            rw[lO]at gh;cases gh
            rw[fx.makes w]
            simp only[Oper.upon]
            have HZ:∀{A:Hp},Own g A w→Own g A (w.alloc x.1):=fun hA=>(hA.alloc x.1).tail
            refine⟨fun oj jY=>⟨fun hp=>(wq oj jY hp).elim,fun _=>⟨HZ (Own.dZ.2 hw).jB,fun _ h1=>HZ h1⟩⟩,?_⟩
            refine dM hs tF hk f' pa cl _ _ _ (h _ hw.fresh) E _ _ j3 (hst _) (gT.step jJ) _ _ (ha.put hd _) (hw.alloc x.1) ?_ (hout _)
            rintro⟨k,ok,tB,qK,oe⟩
            exact HZ (hR ⟨k,ok,tB,qK,eR oE oe⟩)
        · obtain⟨HI,CI⟩:=Ra j hj
          cases Sm:ef cl j with
          |some x=>exact early f' rfl SF j x hj Sm
          |none=>
          refine absurd ?_ Sk
          have UN:j∉cl.map Prod.fst:=fun hm=>by
            obtain⟨x,hx⟩:=ED hm
            rw[Sm]at hx;cases hx
          have hjm:j∈Region.ready .any ops (marks cl i listed):=by
            obtain⟨_,oj,gh,aP⟩:=mem_ready.1 hj
            rw[mem_ready]
            refine⟨?_,oj,gh,fun e he hb=>?_⟩
            · rw[Array.getD_eq_getD_getElem?,tp,if_neg (fun h=>UN h.1),←Array.getD_eq_getD_getElem?];exact CI
            · have h1:=aP e he hb
              have h2:=hE.la e.on
              rw[Array.getD_eq_getD_getElem?]at h1⊢
              rw[tp]
              by_cases hm:e.on∈E.map Prod.fst
              · obtain⟨x,hx,e2⟩:=List.mem_map.1 hm
                have JA:=eC (hE.mem x hx).2
                rw[e2]at JA
                have hlt:=(Array.getElem?_eq_some_iff.1 JA).1
                rw[if_pos ⟨e2▸gW (hE.mem x hx).1,fun e3=>qN (e3▸hm),hlt⟩];rfl
              · rw[if_neg hm]at h2
                split
                · rfl
                · rw[←h2];exact h1
          rw[hrd]at hjm
          simpa using hjm
  termination_by fuel l=>(fuel,SizeOf.sizeOf l)
def pE:Code→Nat→Bool
  | .region _ ops _,s=>bp ops.toList s
  | .seq a b,s=>pE a s||pE b s
  | .cond _ a b,s=>pE a s||pE b s
  | .block _ c,s=>pE c s
  | .loop c,s=>pE c s
  | .skip,_=>false
  | .ret,_=>false
  | .exit _,_=>false
  |_,_=>true
def KF(c:Code):List Nat→Bool
  | []=>true
  |s::r=> !pE c s&&KF c r
def qZ(s:Nat):List Nat→Bool
  | []=>false
  |x::r=>Nat.beq s x||qZ s r
def KG:List Nat→List Value→Fr→Fr
  |l::L,v::vs,base=>fun s=>cond (Nat.beq s l) v (KG L vs base s)
  |_,_,base=>base
def mix(L:List Nat)(vs:List Value)(I:List Nat)(fr gs:Fr):Fr:=KG L vs fun s=>cond (qZ s I) (fr s) (gs s)
def x8(fr:Fr):List Nat→List Value
  | []=>[]
  |s::r=>fr s::x8 fr r
def rV:Nat→(List Value→Prop)→Prop
  |0,p=>p []
  |n+1,p=>∀v,rV n fun vs=>p (v::vs)
theorem rV.intro{p:List Value→Prop}(h:∀vs,p vs):∀n,rV n p
  |0=>h _
  |n+1=>fun v=>rV.intro (fun vs=>h (v::vs)) n
theorem rV.elim{p:List Value→Prop}:∀{n:Nat},rV n p→∀vs:List Value,vs.length=n→p vs
  |0,h,vs,e=>by cases vs with|nil=>exact h|cons x y=>simp at e
  |n+1,h,vs,e=>by
    cases vs with
    |nil=>simp at e
    |cons x y=>exact rV.elim (h x) y (by simpa using e)
theorem ze(fr:Fr)(L:List Nat):(x8 fr L).length=L.length:=by induction L<;>simp[x8, *]
theorem qC{L I:List Nat}{fr fr':Fr}(h:∀s,qZ s I=true→fr' s=fr s):mix L (x8 fr' L) I fr fr'=fr':=by
  funext s
  unfold mix
  induction L with
  |nil=>
    simp only[x8,KG]
    cases he:qZ s I
    · rfl
    · exact(h s he).symm
  |cons l L ih=>
    simp only[x8,KG]
    cases hb:Nat.beq s l
    · exact ih
    · have:=Nat.eq_of_beq_eq_true hb;subst this;rfl
theorem qA{c:Code}{I:List Nat}(h:KF c I=true):∀s,qZ s I=true→pE c s=false:=by
  induction I with
  |nil=>intro s hs;simp[qZ]at hs
  |cons x r ih=>
    intro s hs
    simp only[KF,Bool.and_eq_true,Bool.not_eq_true']at h
    simp only[qZ,Bool.or_eq_true]at hs
    rcases hs with hs|hs
    · rw[Nat.eq_of_beq_eq_true hs];exact h.1
    · exact ih h.2 s hs
def vW(next:Fr→Hp→Prop)(Q:Exit→Fr→Hp→Prop):Exit→Fr→Hp→Prop
  | .normal,fr,H=>next fr H
  |e,fr,H=>Q e fr H
def IL(id:Nat)(Q:Exit→Fr→Hp→Prop):Exit→Fr→Hp→Prop
  | .exit id',fr,H=>cond (Nat.beq id' id) (Q .normal fr H) (Q (.exit id') fr H)
  |e,fr,H=>Q e fr H
def JE(J:List Value→Hp→Prop)(vs:List Value)(H:Hp):Prop:=∃H',aU H H'∧J vs H'
def aF(I:List Value→Hp→Prop)(m:List Value→Hp→Nat)(vs':List Value)(H':Hp)(vs:List Value)(H:Hp):Prop:=∃j5,aU H' j5∧I vs' j5∧m vs' j5<m vs H
def Loop(L:List Nat)(vs:List Value)(H:Hp)(body:(List Value→Hp→Prop)→List Value→Hp→Prop):Prop:=
  ∃(I:List Value→Hp→Prop) (m:List Value→Hp→Nat),JE I vs H∧rV L.length fun vs=>∀H',I vs H'→body (fun vs' j5=>aF I m vs' j5 vs H') vs H'
def T7(k:Nat)(rest:List Value→Hp→Prop)(body:(List Value→Hp→Prop)→Prop):Prop:=
  ∀J:List Value→Hp→Prop,(rV k fun vs=>∀H,rest vs H→J vs H)→body J
def DR(H:Hp)(body:Hp→Prop):Prop:=∃R,aU H R∧body R
def mJ:Code→Nat→Option (Array Oper)
  | .region id ops _,k=>cond (Nat.beq id k) (some ops) none
  | .seq a b,k=>match mJ a k with|some x=>some x|none=>mJ b k
  | .cond _ a b,k=>match mJ a k with|some x=>some x|none=>mJ b k
  | .block _ c,k=>mJ c k
  | .loop c,k=>mJ c k
  |_,_=>none
def PN(P:Program)(g:Gh)(id:Nat)(ops:Array Oper)(L:List Nat)(vs:List Value)(H:Hp)(K:Hp→Prop):Prop:=
  ∀a w,fT a.tmps.size ops.toList=true→(L.map fun s=>a.tmps.getD s undef)=vs→Own g H w→
    (Code.region id ops true).wp P (fun e a' w'=>e=.normal∧a'.defers=a.defers∧a'.tmps.size=a.tmps.size∧(∀s,bp ops.toList s=false→a'.tmps.getD s undef=a.tmps.getD s undef)∧∃H',Own g H' w'∧K H') a w
def lY(f:Func)(r:Nat):Array Oper:=match f.body with|some c=>(match mJ c r with|some ops=>ops|none=>#[])|none=>#[]
theorem LA(fr:Fr)(L:List Nat):x8 fr L=L.map fr:=by induction L<;>simp[x8, *]
def den(P:Program)(g:Gh)(n:Nat):Code→Hn→(Exit→Fr→Hp→Prop)→Fr→Hp→Prop
  | .skip,_,Q,fr,H=>Q .normal fr H
  | .ret,_,Q,fr,H=>Q .ret fr H
  | .exit id,_,Q,fr,H=>Q (.exit id) fr H
  | .seq x y,hn,Q,fr,H=>
    match hn.m with
    |0=>den P g n x hn.a (vW (den P g n y hn.b Q) Q) fr H
    |_=>cond (KF x hn.I)
        (T7 hn.L.length (fun vs H'=>∀gs,den P g n y hn.b Q (mix hn.L vs hn.I fr gs) H') fun J=>den P g n x hn.a (vW (fun fr' H'=>JE J (x8 fr' hn.L) H') Q) fr H) False
  | .cond c x y,hn,Q,fr,H=>Br (ev fr c) (den P g n x hn.a Q fr H) (den P g n y hn.b Q fr H)
  | .block id c,hn,Q,fr,H=>den P g n c hn.a (IL id Q) fr H
  | .loop c,hn,Q,fr,H=>
    cond (KF c hn.I)
      (Loop hn.L (x8 fr hn.L) H fun J vs H'=>∀gs,den P g n c hn.a (vW (fun fr' j5=>J (x8 fr' hn.L) j5) Q) (mix hn.L vs hn.I fr gs) H') False
  | .region id ops draw,hn,Q,fr,H=>
    cond draw
      (match hn.m with
      |0=>match hn.L with
       | []=>cond (P.follows .mixedOrders&&Region.lexB .any ops) (dA P g n ops true (ops.toList.length+1) true none [] ops.toList fr H (fun _ fr' H'=>Q .normal fr' H') (fun _ _=>False)) False
       |l=>cond (P.follows .mixedOrders&&Region.noSelect ops&&Nat.ble l.length ops.size)
          (DR H fun R=>EI P g n ops R (fun fr' H'=>Q .normal fr' H') l (Array.replicate ops.size false) fr H) False
      |9=>cond (fT n ops.toList) (PN P g id ops hn.L (x8 fr hn.L) H fun H'=>∀gs,Q .normal (uZ ops.toList gs fr) H') False
      |_=>cond (P.follows .mixedOrders&&Region.noSelect ops)
          (DR H fun R=>mS P g n ops R (fun fr' H'=>Q .normal fr' H') hn.a [] (Array.replicate ops.size false) fr H) False)
      (dA P g n ops (match hn.I with| []=>false|_=>true) (ops.toList.length+1) false none [] ops.toList fr H (fun _ fr' H'=>Q .normal fr' H') (fun ch H'=>∀fr',Q (.panic ch) fr' H'))
  |_,_,_,_,_=>False
theorem vL{c:Code}{Q:Exit→Act→World→Prop}{a:Act}{w:World}(R:Act→World→Nat→Prop)(h₀:∃m,R a w m)
   (round:∀a w m,R a w m→c.wp P (Exit.then (fun a' w'=>∃m',m'<m∧R a' w' m') Q) a w):(Code.loop c).wp P Q a w:=by
  intro b k cs
  have key:∀n a w,R a w n→
      ∃e a' w',Q e a' w'∧Arrives P (lone (b.at a (.code c:: .inLoop c::k)) cs w) b k cs e a' w':=by
    intro n
    induction n using Nat.strongRecOn with
    |_ n ih=>
      intro a w hI
      obtain⟨e,a₁,w₁,hq,wX⟩:=round a w n hI b (.inLoop c::k) cs
      cases e with
      |normal=>
        obtain⟨m',hlt,Ti⟩:=hq
        obtain⟨e₂,a₂,w₂,RW,La⟩:=ih m' hlt a₁ w₁ Ti
        exact⟨e₂,a₂,w₂,RW,.of_steps (Steps.trans wX (.one step_inLoop)) La⟩
      |exit id=>exact⟨_,a₁,w₁,hq,.pass (x:=.inLoop c) rfl (fun _ _=>.inl (by simp)) wX⟩
      |goto l=>exact⟨_,a₁,w₁,hq,.pass (x:=.inLoop c) rfl (fun _ _=>.inl (by simp)) wX⟩
      |ret=>exact⟨_,a₁,w₁,hq,.pass (x:=.inLoop c) rfl (fun _ _=>.inl (by simp)) wX⟩
      |panic ch=>exact⟨_,a₁,w₁,hq,.pass (x:=.inLoop c) rfl (fun _ _=>.inl (by simp)) wX⟩
      |outgrown=>exact⟨_,a₁,w₁,hq,.pass (x:=.inLoop c) rfl (fun _ _=>.inl (by simp)) wX⟩
  obtain⟨m,h₀⟩:=h₀
  obtain⟨e,a',w',hq,wX⟩:=key m a w h₀
  exact⟨e,a',w',hq,.of_steps (.one step_loop) wX⟩
def qG:Exit→Bool
  | .panic _=>true
  |_=>false
theorem jj{n:Nat}:∀(c:Code) (hn:Hn) (Q:Exit→Fr→Hp→Prop) (fr:Fr) (H:Hp),den P g n c hn Q fr H→∀(a:Act) (w:World),bV ds n a fr→Own g H w→c.wp P (fun e a' w'=>∃fr' H',bV ds n a' fr'∧Own g H' w'∧(qG e=false→∀s,pE c s=false→fr' s=fr s)∧Q e fr' H') a w:=by
  intro c
  induction c with
  |skip=>intro hn Q fr H h a w ha hw;exact wp_skip ⟨fr,H,ha,hw,fun _ _ _=>rfl,h⟩
  |ret=>intro hn Q fr H h a w ha hw;exact wp_ret ⟨fr,H,ha,hw,fun _ _ _=>rfl,h⟩
  |exit id=>intro hn Q fr H h a w ha hw;exact wp_exit ⟨fr,H,ha,hw,fun _ _ _=>rfl,h⟩
  |seq x y UB UA=>
    intro hn Q fr H h a w ha hw
    unfold den at h
    have Rv:∀{LC pg:Fr},(∀s,pE x s=false→LC s=fr s)→(∀s,pE y s=false→pg s=LC s)→∀s,pE (.seq x y) s=false→pg s=fr s:=fun h1 h2 s hs=>by
      simp only[pE,Bool.or_eq_false_iff]at hs
      rw[h2 s hs.2,h1 s hs.1]
    have sr:∀{LC:Fr},(∀s,pE x s=false→LC s=fr s)→∀s,pE (.seq x y) s=false→LC s=fr s:=fun h1 s hs=>by
      simp only[pE,Bool.or_eq_false_iff]at hs
      exact h1 s hs.1
    split at h
    · refine wp_seq (wp_mono (UB _ _ fr H h a w ha hw) ?_)
      rintro e a' w' ⟨fr',H',dL,cU,ho,hq⟩
      cases e with
      |normal=>exact wp_mono (UA _ _ fr' H' hq a' w' dL cU) fun e2 a2 w2 ⟨pg,H2,g1,g2,g3,g4⟩=>⟨pg,H2,g1,g2,fun hp=>Rv (ho rfl) (g3 hp),g4⟩
      |exit id=>exact⟨fr',H',dL,cU,fun hp=>sr (ho hp),hq⟩
      |goto l=>exact⟨fr',H',dL,cU,fun hp=>sr (ho hp),hq⟩
      |ret=>exact⟨fr',H',dL,cU,fun hp=>sr (ho hp),hq⟩
      |panic ch=>exact⟨fr',H',dL,cU,fun hp=>sr (ho hp),hq⟩
      |outgrown=>exact⟨fr',H',dL,cU,fun hp=>sr (ho hp),hq⟩
    · cases hno:KF x hn.I<;>simp only[hno,cond_true,cond_false]at h
      have h':=h (fun vs H'=>∀gs,den P g n y hn.b Q (mix hn.L vs hn.I fr gs) H') (rV.intro (fun vs H' hh=>hh) _)
      refine wp_seq (wp_mono (UB _ _ fr H h' a w ha hw) ?_)
      rintro e a' w' ⟨fr',H',dL,cU,ho,hq⟩
      cases e with
      |normal=>
        obtain⟨Hj,qO,hq⟩:=hq
        have UH:den P g n y hn.b Q fr' Hj:=by
          have:=hq fr'
          rwa [qC fun s hs=>ho rfl s (qA hno s hs)]at this
        exact wp_mono (UA _ _ fr' Hj UH a' w' dL (qO _ _ cU)) fun e2 a2 w2 ⟨pg,H2,g1,g2,g3,g4⟩=>⟨pg,H2,g1,g2,fun hp=>Rv (ho rfl) (g3 hp),g4⟩
      |exit id=>exact⟨fr',H',dL,cU,fun hp=>sr (ho hp),hq⟩
      |goto l=>exact⟨fr',H',dL,cU,fun hp=>sr (ho hp),hq⟩
      |ret=>exact⟨fr',H',dL,cU,fun hp=>sr (ho hp),hq⟩
      |panic ch=>exact⟨fr',H',dL,cU,fun hp=>sr (ho hp),hq⟩
      |outgrown=>exact⟨fr',H',dL,cU,fun hp=>sr (ho hp),hq⟩
  |cond c x y UB UA=>
    intro hn Q fr H h a w ha hw
    obtain⟨b,hb,ht,hf⟩:=h
    refine wp_cond_split (t:=b) (by rw[ha.eval];exact hb) (fun e=>?_) (fun e=>?_)
    · exact wp_mono (UB _ _ fr H (ht e) a w ha hw) fun e2 a2 w2 ⟨pg,H2,g1,g2,g3,g4⟩=>⟨pg,H2,g1,g2,fun hp s hs=>g3 hp s (by simp only[pE,Bool.or_eq_false_iff]at hs;exact hs.1),g4⟩
    · exact wp_mono (UA _ _ fr H (hf e) a w ha hw) fun e2 a2 w2 ⟨pg,H2,g1,g2,g3,g4⟩=>⟨pg,H2,g1,g2,fun hp s hs=>g3 hp s (by simp only[pE,Bool.or_eq_false_iff]at hs;exact hs.2),g4⟩
  |block id c ih=>
    intro hn Q fr H h a w ha hw
    refine wp_block (wp_mono (ih _ _ fr H h a w ha hw) ?_)
    rintro e a' w' ⟨fr',H',dL,cU,ho,hq⟩
    cases e with
    |exit id'=>
      simp only[IL]at hq
      cases hb:Nat.beq id' id<;>simp only[hb,cond_true,cond_false]at hq
      · have:id'≠id:=fun e=>by subst e;simp at hb
        simp only[Exit.inBlock,this,if_false]
        exact⟨fr',H',dL,cU,ho,hq⟩
      · have:=Nat.eq_of_beq_eq_true hb
        simp only[Exit.inBlock,this,if_true]
        exact⟨fr',H',dL,cU,ho,hq⟩
    |normal=>exact⟨fr',H',dL,cU,ho,hq⟩
    |goto l=>exact⟨fr',H',dL,cU,ho,hq⟩
    |ret=>exact⟨fr',H',dL,cU,ho,hq⟩
    |panic ch=>exact⟨fr',H',dL,cU,ho,hq⟩
    |outgrown=>exact⟨fr',H',dL,cU,ho,hq⟩
  |loop c ih=>
    intro hn Q fr H h a w ha hw
    unfold den at h
    cases hno:KF c hn.I<;>simp only[hno,cond_true,cond_false]at h
    obtain⟨I,m,⟨H0,SC,h0⟩,hr⟩:=h
    refine vL (fun a w k=>∃fr' H',bV ds n a fr'∧Own g H' w∧(∀s,pE c s=false→fr' s=fr s)∧I (x8 fr' hn.L) H'∧m (x8 fr' hn.L) H'=k) ⟨_,fr,H0,ha,SC _ _ hw,fun _ _=>rfl,h0,rfl⟩ ?_
    rintro a w k ⟨LC,H1,CX,js,CD,hI,rfl⟩
    have hb:=hr.elim (x8 LC hn.L) (ze _ _) H1 hI LC
    rw[qC fun s hs=>CD s (qA hno s hs)]at hb
    refine wp_mono (ih _ _ LC H1 hb a w CX js) ?_
    rintro e a' w' ⟨fr',H',dL,cU,ho,hq⟩
    have ct:qG e=false→∀s,pE c s=false→fr' s=fr s:=fun hp s hs=>(ho hp s hs).trans (CD s hs)
    cases e with
    |normal=>obtain⟨Hj,qO,Xj,Xi⟩:=hq;exact⟨_,Xi,fr',Hj,dL,qO _ _ cU,ct rfl,Xj,rfl⟩
    |exit id=>exact⟨fr',H',dL,cU,ct,hq⟩
    |goto l=>exact⟨fr',H',dL,cU,ct,hq⟩
    |ret=>exact⟨fr',H',dL,cU,ct,hq⟩
    |panic ch=>exact⟨fr',H',dL,cU,ct,hq⟩
    |outgrown=>exact⟨fr',H',dL,cU,ct,hq⟩
  |region id ops draw=>
    intro hn Q fr H h a w ha hw
    unfold den at h
    cases draw<;>simp only[cond_true,cond_false]at h
    case false=>
      refine wp_region_list ?_
      have:=bZ _ _ _ _ _ fr H _ _ h trivial (fX.nil fr) a w ha hw [] (fun e a' w'=>∃fr' H',bV ds n a' fr'∧Own g H' w'∧(qG e=false→∀s,pE (.region id ops false) s=false→fr' s=fr s)∧Q e fr' H') ?_ ?_
      · simpa using this
      · intro a' w' ng fr' H' h1 h2 h3 _ h4
        exact⟨fr',H',h1,h2,fun _=>h3,h4⟩
      · intro ch a' w' fr' H' h1 h2 h3
        exact⟨fr',H',h1,h2,fun hp=>by simp[qG]at hp,h3 fr'⟩
    case true=>
      split at h
      · split at h
        · cases hc:(P.follows .mixedOrders&&Region.lexB .any ops)<;>simp only[hc,cond_true,cond_false]at h
          simp only[Bool.and_eq_true]at hc
          refine wp_region_quiet (C:=Own g H) hc.1 hc.2 hw.tK ?_
          have:=cP _ none _ ops.toList fr H _ _ h trivial (fX.nil fr) a ha [] (fun a'=>∀w',Own g H w'→∃fr' H',bV ds n a' fr'∧Own g H' w'∧(qG .normal=false→∀s,pE (.region id ops true) s=false→fr' s=fr s)∧Q .normal fr' H') ?_
          · simpa using this
          · intro a' ng fr' h1 h3 _ h4
            exact fun w' cU=>⟨fr',H,h1,cU,fun _=>h3,h4⟩
        · cases hc:(P.follows .mixedOrders&&Region.noSelect ops&&Nat.ble hn.L.length ops.size)<;>simp only[hc,cond_true,cond_false]at h
          simp only[Bool.and_eq_true]at hc
          obtain⟨R,hR,h⟩:=h
          refine wp_mono (Q:=n7 fun e a' w'=>∃fr' H',bV ds n a' fr'∧Own g H' w'∧(qG e=false→∀s,pE (.region id ops true) s=false→fr' s=fr s)∧Q e fr' H') ?_ ?_
          · refine wp_region_any hc.1.1 (cG.any (S:=mC P g R ops) ?_)
            exact nU hc.1.2 fr (fun a w fr' H' h1 h2 h3 h4=>⟨fr',H',h1,h2,fun _=>h3,h4⟩) _ _ fr H h _ (Nat.le_of_ble_eq_true hc.2) (dP.none _ rfl) _ _ ha hw.tK (fun _=>(hR _ _ hw).tK) (dr.refl _ _)
          · intro e a w h
            cases e<;>first|exact h|exact h.elim
      · cases hc:fT n ops.toList<;>simp only[hc,cond_true,cond_false]at h
        refine wp_mono (h a w (by rw[ha.size];exact hc) (by rw[LA];exact List.map_congr_left fun s _=>ha.get s) hw) ?_
        rintro e a' w' ⟨rfl,hd,hs,ho,H',cU,hk⟩
        refine⟨uZ ops.toList (fun s=>a'.tmps.getD s undef) fr,H',⟨hd.trans ha.defers,hs.trans ha.size,fun s=>?_⟩,cU,fun _ s hs=>?_,hk _⟩
        · unfold uZ
          cases hb:bp ops.toList s
          · rw[cond_false,ho s hb,ha.get]
          · rfl
        · unfold uZ;simp only[pE]at hs;rw[hs,cond_false]
      · cases hc:(P.follows .mixedOrders&&Region.noSelect ops)<;>simp only[hc,cond_true,cond_false]at h
        simp only[Bool.and_eq_true]at hc
        obtain⟨R,hR,h⟩:=h
        refine wp_mono (Q:=n7 fun e a' w'=>∃fr' H',bV ds n a' fr'∧Own g H' w'∧(qG e=false→∀s,pE (.region id ops true) s=false→fr' s=fr s)∧Q e fr' H') ?_ ?_
        · refine wp_region_any hc.1 (cG.any (S:=mC P g R ops) ?_)
          refine dM hc.2 fr (fun a w fr' H' h1 h2 h3 h4=>⟨fr',H',h1,h2,fun _=>h3,h4⟩) _ _ [] _ fr H h [] _ fr (by rw[Array.toList_replicate,sE];exact Nat.le_refl _) ⟨by simp,by simp,by simp,fun _ _=>rfl,by simp,fun j x hx=>by simp[ef]at hx⟩ (dP.none _ rfl) _ _ ha hw.tK (fun _=>(hR _ _ hw).tK) (dr.refl _ _)
        · intro e a w h
          cases e<;>first|exact h|exact h.elim
  |label l=>intro hn Q fr H h;exact h.elim
  |goto l=>intro hn Q fr H h;exact h.elim
  |scope c _=>intro hn Q fr H h;exact h.elim
  |refuse s=>intro hn Q fr H h;exact h.elim
  |rangeFunc f ps as b _ _=>intro hn Q fr H h;exact h.elim
def an(R:Ending→Hp→Prop):List PanicEntry→Hp→Prop:=fun ch H=>∀_:Fr,R (.panicked ch) H
def bn:List PanicEntry→Hp→Prop:=fun _ _=>False
def qx:Code→Nat→Option (Array Oper)
  | .region id ops _,k=>cond (Nat.beq id k) (some ops) none
  | .seq a b,k=>match qx a k with|some x=>some x|none=>qx b k
  | .cond _ a b,k=>match qx a k with|some x=>some x|none=>qx b k
  | .block _ c,k=>qx c k
  | .loop c,k=>qx c k
  |_,_=>none
def e8(f:Func)(r i:Nat):Oper:=match f.body with|some c=>(match qx c r with|some ops=>(match ops[i]? with|some o=>o|none=>default)|none=>default)|none=>default
def gS:List Value→Nat→Fr
  | [],_=>fun _=>undef
  |v::r,i=>fun s=>cond (Nat.beq s i) v (gS r (i+1) s)
def qw(P:Program)(fr:Fr)(H:Hp):List ResultVar→(List Value→Prop)→Prop
  | [],k=>k []
  | .tmp t::r,k=>qw P fr H r fun vs=>k (fr t::vs)
  | .cell a t::r,k=>match P.underlying t,cN P t with
    |some d,some n=>cond (cv d) (aC n H (fr a) fun v=>qw P fr H r fun vs=>k (v::vs)) (Ld H (fr a) fun v=>qw P fr H r fun vs=>k (v::vs))
    |_,_=>False
def yB:List Value→Value
  | [v]=>v
  |vs=>.tuple vs.toArray
def YQ(P:Program)(fn:Func)(R:Ending→Hp→Prop):Exit→Fr→Hp→Prop
  | .normal,fr,H=>qw P fr H fn.results.toList fun vs=>R (.returned (yB vs)) H
  | .ret,fr,H=>qw P fr H fn.results.toList fun vs=>R (.returned (yB vs)) H
  | .panic ch,_,H=>R (.panicked ch) H
  |_,_,_=>False
def EH(P:Program)(g:Gh)(fn:Func)(hn:Hn)(args:List Value)(H:Hp)(R:Ending→Hp→Prop):Prop:=
  match fn.body with
  |some c=>cond (Nat.ble args.length fn.ntmps) (den P g fn.ntmps c hn (YQ P fn R) (gS args 0) H) False
  |none=>False
theorem jI:∀(l:List Value) (i s:Nat),gS l i s=if s<i then undef else l.getD (s-i) undef
  | [],i,s=>by simp[gS]
  |v::r,i,s=>by
    simp only[gS,jI r (i+1) s]
    cases hb:Nat.beq s i
    · have hne:s≠i:=fun e=>by subst e;simp at hb
      simp only[cond_false]
      by_cases h:s<i
      · rw[if_pos (by omega),if_pos h]
      · rw[if_neg (by omega),if_neg h,show s-i=(s-(i+1))+1 by omega]
        simp[List.getD]
    · have:=Nat.eq_of_beq_eq_true hb;subst this
      simp[List.getD]
def DX(fr:Fr):ResultVar→Sem Value
  | .tmp t=>pure (fr t)
  | .cell b t=>do loadVar t (←asAddr (fr b))
theorem o8{fr:Fr}{H:Hp}{w:World}(hw:Own g H w){b:Tmp}{t:TypeId}{v:Value}{p:Addr}(hp:fr b=.pointer (some p))(h:(Instr.loadAt t (fr b)).run P w=.ok v w):(DX fr (.cell b t)).run P w=.ok v w:=by
  rw[hp]at h
  simp only[DX,hp,asAddr]
  simpa[Instr.loadAt,Instr.sureAddr]using h
theorem nt{fr:Fr}{H:Hp}{w:World}(hw:Own g H w):∀(l:List ResultVar) (k:List Value→Prop),qw P fr H l k→
    ∃vs,(l.mapM (DX fr)).run P w=.ok vs w∧k vs
  | [],k,h=>⟨[],by simp,h⟩
  | .tmp t::r,k,h=>by
    obtain⟨vs,hr,hk⟩:=nt hw r _ h
    refine⟨fr t::vs,?_,hk⟩
    simp only[List.mapM_cons,Sem.run_bind,Sem.run_pure,Result.andThen_ok,hr,DX]
  | .cell b t::r,k,h=>by
    unfold qw at h
    split at h<;>try exact h.elim
    rename_i d m hd hm
    obtain⟨i,hi,him⟩:=aZ hm
    cases X0:cv d<;>simp only[X0,cond_true,cond_false]at h
    · obtain⟨v,hk',hf⟩:=h.fix
      obtain⟨v2,Cz,e⟩:=hf.run (P:=P) hw hd X0
      subst e
      obtain⟨bb,off,c,T,fz,u,hp,_⟩:=hf
      obtain⟨vs,hr,hk⟩:=nt hw r _ hk'
      refine⟨v2::vs,?_,hk⟩
      have:=o8 hw hp Cz
      simp only[List.mapM_cons,Sem.run_bind,Result.andThen_ok,hr,Sem.run_pure,this]
    · obtain⟨v,hk',hf⟩:=h.fix
      obtain⟨v2,Cz,e⟩:=hf.run (P:=P) hw hd X0 hi him
      subst e
      obtain⟨bb,off,c,T,fz,hp,_⟩:=hf
      obtain⟨vs,hr,hk⟩:=nt hw r _ hk'
      refine⟨v2::vs,?_,hk⟩
      have:=o8 hw hp Cz
      simp only[List.mapM_cons,Sem.run_bind,Result.andThen_ok,hr,Sem.run_pure,this]
theorem fL{fn:Func}{fr:Fr}{H:Hp}{n:Nat}{a:Act}{w:World}(ha:bV ds n a fr)(hw:Own g H w){k:List Value→Prop}(h:qw P fr H fn.results.toList k):
    ∃vs,(results fn a.tmps).run P w=.ok (yB vs) w∧k vs:=by
  obtain⟨vs,hr,hk⟩:=nt (P:=P) hw _ _ h
  refine⟨vs,?_,hk⟩
  have e:results fn a.tmps=(do let vs ←fn.results.mapM (DX fr);pure (if h:vs.size=1 then vs[0]else .tuple vs)):=by
    unfold results
    congr 1
    congr 1
    funext x
    cases x<;>simp only[DX,ha.get]
  rw[e,Array.mapM_eq_mapM_toList]
  simp only[Sem.run_bind,Sem.run_map,hr,Result.andThen_ok,Sem.run_pure]
  congr 1
  match vs with
  | []=>rfl
  | [v]=>rfl
  |a::b::r=>simp[yB]
theorem zi{f:FuncId}{fn:Func}{hn:Hn}{args:List Value}{H:Hp}{R:Ending→Hp→Prop}(hf:P.funcs[f]? =some fn)(h:EH P g fn hn args H R):aj P g f args.toArray H R:=by
  intro w hw
  unfold EH at h
  split at h<;>try exact h.elim
  rename_i c hc
  cases hl:Nat.ble args.length fn.ntmps<;>simp only[hl,cond_true,cond_false]at h
  have hle:=Nat.le_of_ble_eq_true hl
  refine calls_of_wp hf hc (wp_mono (jj c hn _ _ H h _ w ⟨rfl,?_,?_⟩ hw) ?_)
  · simp;omega
  · intro s
    rw[jI,Array.getD_eq_getD_getElem?,Array.getElem?_append]
    simp only[List.size_toArray,Nat.not_lt_zero,if_false,Nat.sub_zero]
    by_cases hs:s<args.length
    · simp[hs,List.getD]
    · rw[if_neg hs]
      rw[Array.getElem?_replicate]
      have:args.getD s undef=undef:=by simp[List.getD,List.getElem?_eq_none (Nat.le_of_not_lt hs)]
      rw[this]
      split<;>rfl
  · rintro e a' w' ⟨fr',H',dL,cU,_,hq⟩
    cases e with
    |normal=>obtain⟨vs,hr,hk⟩:=fL dL cU hq;exact⟨dL.defers,_,hr,H',cU,hk⟩
    |ret=>obtain⟨vs,hr,hk⟩:=fL dL cU hq;exact⟨dL.defers,_,hr,H',cU,hk⟩
    |panic ch=>exact⟨dL.defers,H',cU,hq⟩
    |exit id=>exact hq.elim
    |goto l=>exact hq.elim
    |outgrown=>exact hq.elim
end
end Go.Sx
namespace Go.Sx
open Go
section
variable {P:Program} {g:Gh} {H:Hp}
theorem Nil.ptr{a:Addr}{k:Value→Prop}(h:k (.pointer (some a))):Nil (.pointer (some a)) k:=⟨_,rfl,h⟩
theorem aa.mk{b o off:Nat}{k:Value→Prop}(h:k (.pointer (some ⟨b,o+off,none⟩))):aa off (.pointer (some ⟨b,o,none⟩)) k:=⟨b,o,rfl,h⟩
theorem Ld.mk{b off:Nat}{c:Array Value}{T:TypeId}{fz:Nat×Nat}{v:Value}{k:Value→Prop}(hm:(b,Obj.cells c T fz)∈H)(hc:c[off]? =some v)(h:k v):Ld H (.pointer (some ⟨b,off,none⟩)) k:=
 ⟨b,off,c,T,fz,v,rfl,hm,hc,h⟩
theorem aC.mk{b off n:Nat}{c:Array Value}{T:TypeId}{fz:Nat×Nat}{vs:Array Value}{k:Value→Prop}(hm:(b,Obj.cells c T fz)∈H)(hs:off+n≤c.size)(hc:c.extract off (off+n)=vs)(h:k (.agg vs)):aC n H (.pointer (some ⟨b,off,none⟩)) k:=
 ⟨b,off,c,T,fz,rfl,hm,hs,by rw[hc];exact h⟩
theorem St.mk{b off n:Nat}{c:Array Value}{T:TypeId}{x:Value}{c':Array Value}{H':Hp}{k:Hp→Prop}(hu:dH b (.cells c T (0,0)) (.cells c' T (0,0)) H H')(hx:x.cells.size=n)(hs:off+n≤c.size)
 (h1:∀v∈x.cells.toList,v.oneCell'=true)(hc:gN c off x.cells.toList=c')(h:k H'):St n H (.pointer (some ⟨b,off,none⟩)) x k:=
 ⟨b,off,c,T,H',rfl,hx,hs,h1,by rw[hc];exact hu,h⟩
theorem JE.mk{J:List Value→Hp→Prop}{vs:List Value}(h:J vs H):JE J vs H:=⟨H,.refl _,h⟩
theorem JE.of{J:List Value→Hp→Prop}{vs:List Value}{H':Hp}(e:aU H H')(h:J vs H'):JE J vs H:=⟨H',e,h⟩
theorem aF.mk{I:List Value→Hp→Prop}{m:List Value→Hp→Nat}{vs' vs:List Value}{H0:Hp}(h:I vs' H)(hm:m vs' H<m vs H0):aF I m vs' H vs H0:=⟨H,.refl _,h,hm⟩
theorem aF.of{I:List Value→Hp→Prop}{m:List Value→Hp→Nat}{vs' vs:List Value}{H' H0:Hp}(e:aU H H')(h:I vs' H')(hm:m vs' H'<m vs H0):aF I m vs' H vs H0:=⟨H',e,h,hm⟩
theorem Br.mk{b:Bool}{t f:Prop}(h1:b=true→t)(h2:b=false→f):Br (.bool b) t f:=⟨b,rfl,h1,h2⟩
theorem Br.yes{t f:Prop}(h1:t):Br (.bool true) t f:=⟨true,rfl,fun _=>h1,fun h=>by simp at h⟩
theorem Br.no{t f:Prop}(h1:f):Br (.bool false) t f:=⟨false,rfl,fun h=>by simp at h,fun _=>h1⟩
theorem Br.Vf{b:Bool}{t f:Prop}(hb:b=true)(h1:t):Br (.bool b) t f:=by subst hb;exact Br.yes h1
theorem Br.Rx{b:Bool}{t f:Prop}(hb:b=false)(h1:f):Br (.bool b) t f:=by subst hb;exact Br.no h1
theorem cw.mk{a:Bool}{want:Bool}{inner els k:Bool→Prop}(t:Bool)(h1:a=want→inner t)(h2:a= !want→els t)(h3:k t):cw (.bool a) want inner els k:=⟨a,t,rfl,h1,h2,h3⟩
theorem cw.and{a:Bool}{inner els k:Bool→Prop}(b:Bool)(h1:a=true→inner b)(h2:els false)(h3:k (a&&b)):cw (.bool a) true inner els k:=
 ⟨a,a&&b,rfl,fun e=>by subst e;exact h1 rfl,fun e=>by subst e;exact h2,h3⟩
theorem cw.or{a:Bool}{inner els k:Bool→Prop}(b:Bool)(h1:a=false→inner b)(h2:els true)(h3:k (a||b)):cw (.bool a) false inner els k:=
 ⟨a,a||b,rfl,fun e=>by subst e;exact h1 rfl,fun e=>by subst e;exact h2,h3⟩
theorem Split.go{a:Bool}{want:Bool}{k1 k2:Prop}(e:a=want)(h1:k1):Split (.bool a) want k1 k2:=⟨a,rfl,fun _=>h1,fun e'=>by subst e;cases a<;>simp at e'⟩
theorem Split.Ru{a:Bool}{want:Bool}{k1 k2:Prop}(e:a= !want)(h1:k2):Split (.bool a) want k1 k2:=⟨a,rfl,fun e'=>by subst e';cases a<;>simp at e,fun _=>h1⟩
theorem aA.mk{t:Bool}{a b:Value}{k:Value→Prop}(h:k (cond t a b)):aA (.bool t) a b k:=⟨t,rfl,h⟩
theorem Un.not{b:Bool}{k:Value→Prop}(h:k (.bool !b)):Un .not (.bool b) k:=⟨_,rfl,h⟩
theorem Ext.mk{i:Nat}{vs:Array Value}{v:Value}{k:Value→Prop}(hv:vs[i]? =some v)(h:k v):Ext i (.tuple vs) k:=⟨vs,v,rfl,hv,h⟩
theorem bA.mk{a:Option Addr}{n c:Nat}{k:Value→Prop}(h:k (.int .i64 n)):bA (.slice a n c) k:=⟨a,n,c,rfl,h⟩
theorem aW.of{kd j:IntKind}{n m:Int}{k:Value→Prop}(e:kd.wrap n=m)(h:k (.int kd m)):aW kd (.int j n) k:=⟨j,n,rfl,by rw[e];exact h⟩
theorem JU.mk{off:Nat}{cs:Array Value}{v:Value}{k:Value→Prop}(hc:cs[off]? =some v)(h:k v):JU off (.agg cs) k:=⟨cs,v,rfl,hc,h⟩
theorem ai.mk{size b o n c:Nat}{kd:IntKind}{i:Int}{k:Value→Prop}(h0:0≤i)(h1:i<(n:Int))(h:k (.pointer (some ⟨b,o+i.toNat*size,none⟩))):ai size (.slice (some ⟨b,o,none⟩) n c) (.int kd i) k:=
 ⟨b,o,n,c,kd,i,rfl,rfl,h0,h1,h⟩
theorem ai.nat{size b o n c:Nat}{kd:IntKind}{j:Nat}{k:Value→Prop}(h1:j<n)(h:k (.pointer (some ⟨b,o+j*size,none⟩))):ai size (.slice (some ⟨b,o,none⟩) n c) (.int kd (j:Int)) k:=
 ai.mk (Int.natCast_nonneg j) (by omega) (by simpa using h)
theorem ae.eql{kd:IntKind}{a b:Int}{k:Value→Prop}(h:k (.bool (a==b))):ae .num .eql (.int kd a) (.int kd b) k:=⟨_,by simp[fE,jH],h⟩
theorem ae.neq{kd:IntKind}{a b:Int}{k:Value→Prop}(h:k (.bool (a !=b))):ae .num .neq (.int kd a) (.int kd b) k:=⟨_,by simp[fE,jH],h⟩
theorem ae.lss{kd:IntKind}{a b:Int}{k:Value→Prop}(h:k (.bool (decide (a<b)))):ae .num .lss (.int kd a) (.int kd b) k:=⟨_,by simp[fE,jH],h⟩
theorem ae.leq{kd:IntKind}{a b:Int}{k:Value→Prop}(h:k (.bool (decide (a≤b)))):ae .num .leq (.int kd a) (.int kd b) k:=⟨_,by simp[fE,jH],h⟩
theorem ae.gtr{kd:IntKind}{a b:Int}{k:Value→Prop}(h:k (.bool (decide (b<a)))):ae .num .gtr (.int kd a) (.int kd b) k:=⟨_,by simp[fE,jH],h⟩
theorem ae.geq{kd:IntKind}{a b:Int}{k:Value→Prop}(h:k (.bool (decide (b≤a)))):ae .num .geq (.int kd a) (.int kd b) k:=⟨_,by simp[fE,jH],h⟩
theorem ae.add{kd:IntKind}{a b:Int}{k:Value→Prop}(h:k (.int kd (kd.wrap (a+b)))):ae .num .add (.int kd a) (.int kd b) k:=⟨_,by simp[fE,jH],h⟩
theorem ae.sub{kd:IntKind}{a b:Int}{k:Value→Prop}(h:k (.int kd (kd.wrap (a-b)))):ae .num .sub (.int kd a) (.int kd b) k:=⟨_,by simp[fE,jH],h⟩
theorem ae.mul{kd:IntKind}{a b:Int}{k:Value→Prop}(h:k (.int kd (kd.wrap (a*b)))):ae .num .mul (.int kd a) (.int kd b) k:=⟨_,by simp[fE,jH],h⟩
theorem wrap_i64{a:Int}(h: -9223372036854775808≤a∧a≤9223372036854775807):IntKind.i64.wrap a=a:=IntWalk.i64_in _ h
theorem ae.B8{a b:Int}{c:Int}{k:Value→Prop}(e:a-b=c)(hb: -9223372036854775808≤c∧c≤9223372036854775807)(h:k (.int .i64 c)):ae .num .sub (.int .i64 a) (.int .i64 b) k:=
 ae.sub (by rw[e,wrap_i64 hb];exact h)
theorem ae.Ro{kd:IntKind}{a b:Int}{c:Int}{k:Value→Prop}(hb0:b≠0)(e:a.tmod b=c)(h:k (.int kd c)):ae .num .rem (.int kd a) (.int kd b) k:=
 ⟨.int kd c,by simp[fE,jH,hb0,e],h⟩
theorem ae.bK{a:Addr}{k:Value→Prop}(h:k (.bool false)):ae .ptr .eql (.pointer (some a)) (.pointer none) k:=⟨.bool false,by simp[fE],h⟩
theorem ae.uB{a:Addr}{k:Value→Prop}(h:k (.bool true)):ae .ptr .neq (.pointer (some a)) (.pointer none) k:=⟨.bool true,by simp[fE],h⟩
theorem ae.WE{a b:Bool}{k:Value→Prop}(h:k (.bool (!(a==b)))):ae .bool .neq (.bool a) (.bool b) k:=⟨_,by simp[fE],h⟩
theorem aU.Mg(A B C:Hp):aU (A++(B++C)) (B++(A++C)):=.perm (by rw[←List.append_assoc,←List.append_assoc];exact List.perm_append_comm.append_right C)
def flat:List Hp→Hp
 | []=>[]
 | [a]=>a
 |a::b::r=>a++flat (b::r)
theorem oM:∀(l:List Hp),(flat l).Perm l.flatten
 | []=>.refl _
 | [a]=>by simp[flat]
 |a::b::r=>by
  simp only[flat,List.flatten_cons]
  exact List.Perm.append_left _ (by simpa using oM (b::r))
theorem aU.Rl(S T:List Hp)(h:S.Perm T):aU (flat S) (flat T):=
 .perm ((oM S).trans (h.flatten.trans (oM T).symm))
def rows(l:List (List Value)):Array Value:=l.flatten.toArray
theorem pn{k:Nat}:∀(l:List (List Value)) (i j:Nat),(∀r∈l,r.length=k)→j<k→l.flatten[i*k+j]? =(l[i]?).bind (·[j]?)
 | [],i,j,_,_=>by simp
 |r::l,0,j,h,hj=>by
  have:=h r (by simp)
  simp[List.getElem?_append,this,hj]
 |r::l,i+1,j,h,hj=>by
  have hr:=h r (by simp)
  have ih:=pn l i j (fun x hx=>h x (by simp[hx])) hj
  rw[List.flatten_cons,List.getElem?_append_right (by rw[hr,Nat.succ_mul];omega),hr,show(i+1)*k+j-k=i*k+j by rw[Nat.succ_mul];omega,ih]
  simp
theorem cC{k:Nat}:∀(l:List (List Value)),(∀r∈l,r.length=k)→l.flatten.length=l.length*k
 | [],_=>by simp
 |r::l,h=>by
  have hr:=h r (by simp)
  rw[List.flatten_cons,List.length_append,hr,cC l (fun x hx=>h x (by simp[hx]))]
  simp[Nat.succ_mul];omega
theorem bu{k:Nat}{l:List (List Value)}(h:∀r∈l,r.length=k):(rows l).size=l.length*k:=by simp[rows,cC l h]
theorem fK{k:Nat}{l:List (List Value)}(h:∀r∈l,r.length=k){i j:Nat}(hj:j<k):(rows l)[i*k+j]? =(l[i]?).bind (·[j]?):=by
 simp only[rows,List.getElem?_toArray];exact pn l i j h hj
theorem uz{k:Nat}{l:List (List Value)}(h:∀r∈l,r.length=k){i:Nat}{r:List Value}(hi:l[i]? =some r):(rows l).extract (i*k) (i*k+k)=r.toArray:=by
 have hr:=h r (List.mem_of_getElem? hi)
 have hlt:=(List.getElem?_eq_some_iff.1 hi).1
 apply Array.ext'
 apply List.ext_getElem?
 intro j
 by_cases hj:j<k
 ·have:=fK h (i:=i) hj
  rw[Array.getElem?_toList,Array.getElem?_extract]
  rw[if_pos (by rw[bu h];have:=Nat.mul_le_mul_right k (Nat.succ_le_of_lt hlt);rw[Nat.succ_mul]at this;omega),this,hi]
  simp
 ·rw[List.getElem?_eq_none (by simp;omega),List.getElem?_eq_none (by simp;omega)]
theorem nA:∀(vs:List Value) (c:List Value) (off:Nat),off+vs.length≤c.length→gN c.toArray off vs=(c.take off++vs++c.drop (off+vs.length)).toArray
 | [],c,off,_=>by simp[gN]
 |v::r,c,off,h=>by
  simp only[List.length_cons]at h
  have hl:off<c.length:=by omega
  have:c.toArray.setIfInBounds off v=(c.set off v).toArray:=by simp
  rw[gN,this,nA r (c.set off v) (off+1) (by simp only[List.length_set];omega)]
  congr 1
  have e1:(c.set off v).take (off+1)=c.take off++[v]:=by
   rw[List.set_eq_take_append_cons_drop,if_pos hl,List.take_append]
   simp[List.take_take,hl,Nat.min_eq_left (Nat.le_of_lt hl)]
  have e2:(c.set off v).drop (off+1+r.length)=c.drop (off+(v::r).length):=by
   rw[List.drop_set_of_lt (by omega)]
   simp only[List.length_cons]
   rw[show off+1+r.length=off+(r.length+1)by omega]
  rw[e1,e2];simp
theorem we{k:Nat}{l:List (List Value)}(h:∀r∈l,r.length=k){i:Nat}(hi:i<l.length){r:List Value}(hr:r.length=k):gN (rows l) (i*k) r=rows (l.set i r):=by
 unfold rows
 have hlen:=cC l h
 have hle:i*k+k≤l.length*k:=by have:=Nat.mul_le_mul_right k (Nat.succ_le_of_lt hi);rwa [Nat.succ_mul]at this
 rw[nA r l.flatten (i*k) (by rw[hlen,hr];exact hle)]
 congr 1
 have e:l=l.take i++[l[i]]++l.drop (i+1):=by simp
 have hp:(l.take i).flatten.length=i*k:=by
  rw[cC _ (fun x hx=>h x (List.mem_of_mem_take hx))];simp[Nat.min_eq_left (Nat.le_of_lt hi)]
 have hm:l[i].length=k:=h _ (List.getElem_mem hi)
 have e3:l.flatten=(l.take i).flatten++(l[i]++(l.drop (i+1)).flatten):=by
  rw[←List.flatten_cons,←List.flatten_append,←List.drop_eq_getElem_cons hi,List.take_append_drop]
 have e4:(l.set i r).flatten=(l.take i).flatten++(r++(l.drop (i+1)).flatten):=by
  rw[List.set_eq_take_append_cons_drop,if_pos hi];simp[List.flatten_append]
 rw[e4,e3,←hp,List.take_left,←List.drop_drop,List.drop_left,hr,←hm,List.drop_left]
 simp
end
end Go.Sx
namespace Go.Sx
open Go
section
variable {P:Program} {g:Gh}
theorem dH.dD{b:Nat}{o o':Obj}{C C':Hp}(h:dH b o o' C C')(A:Hp):dH b o o' (A++C) (A++C'):=by
 induction A with
 |nil=>exact h
 |cons x A ih=>exact .tail ih
def aQ(T:TypeId)(k:Nat)(v:Value)(rs:List (List Value))(C:Hp):Prop:=
 (v=.slice none 0 0∧rs=[]∧C=[])∨
 ∃b bF,v=.slice (some ⟨b,0,none⟩) rs.length (rs.length+bF.length)∧C=[(b,.cells (rows (rs++bF)) T (0,0))]∧(∀r∈rs++bF,r.length=k)
theorem aQ.nil(T:TypeId)(k:Nat):aQ T k (.slice none 0 0) [] []:=.inl ⟨rfl,rfl,rfl⟩
theorem aQ.len{T:TypeId}{k:Nat}{v:Value}{rs:List (List Value)}{C:Hp}(h:aQ T k v rs C):∃a c,v=.slice a rs.length c:=by
 rcases h with⟨rfl,rfl,rfl⟩|⟨b,bF,rfl,_⟩
 ·exact⟨_,_,rfl⟩
 ·exact⟨_,_,rfl⟩
theorem aQ.bS{T:TypeId}{k:Nat}{v:Value}{rs:List (List Value)}{C:Hp}(h:aQ T k v rs C){K:Value→Prop}(hk:K (.int .i64 rs.length)):bA v K:=by
 obtain⟨a,c,rfl⟩:=h.len;exact bA.mk hk
theorem nj{k:Nat}(z:List Value)(hz:z.length=k)(m:Nat):Builtin.zeroCells z.toArray m=rows (List.replicate m z):=by
 apply Array.ext'
 apply List.ext_getElem?
 intro j
 have aP:∀r∈List.replicate m z,r.length=k:=fun r hr=>by rw[List.eq_of_mem_replicate hr,hz]
 by_cases hj:j<m*k
 ·have hk:0<k:=Nat.pos_of_ne_zero fun e=>by simp[e]at hj
  have hd:j/k<m:=Nat.div_lt_of_lt_mul (by rw[Nat.mul_comm];exact hj)
  have hm:j%k<k:=Nat.mod_lt _ hk
  have he:j/k*k+j%k=j:=by rw[Nat.mul_comm];exact Nat.div_add_mod j k
  have:=fK aP (i:=j/k) hm
  rw[he]at this
  rw[Array.getElem?_toList,Array.getElem?_toList,this]
  simp only[Builtin.zeroCells,List.size_toArray,hz,List.getElem?_replicate,hd,if_true,Option.bind_some]
  rw[Array.getElem?_map,Array.getElem?_range]
  simp[hj,hz,hm]
 ·rw[List.getElem?_eq_none,List.getElem?_eq_none]
  ·simp only[Array.length_toList,bu aP,List.length_replicate];omega
  ·simp[Builtin.zeroCells,hz];omega
theorem c8(a b:List (List Value)):rows a++rows b=rows (a++b):=by simp[rows,List.flatten_append]
theorem aQ.IT{elem k bytes:Nat}{zero:Value}{v:Value}{rs:List (List Value)}{C A B:Hp}(h:aQ elem k v rs C){xb:Nat}{r:List Value}{xT:TypeId}{fz:Nat×Nat}{xc:Nat}
 (hx:(xb,Obj.cells r.toArray xT fz)∈A++(C++B))(hr:r.length=k)(h1:∀u∈r,u.oneCell'=true)(hz:∃z:List Value,zero.cells=z.toArray∧z.length=k)
 (hb:(rs.length+1)*bytes≤140737488355328)(bX:rs.length+1≤9223372036854775807){K:Value→Hp→Prop}
 (hk:∀v' C',aQ elem k v' (rs++[r]) C'→K v' (A++(C'++B))):App P elem k bytes zero (A++(C++B)) v (.slice (some ⟨xb,0,none⟩) 1 xc) K:=by
 have CW:∀x∈[r],x.length=k:=fun x hx=>by simp at hx;rw[hx];exact hr
 obtain⟨z,KV,Cv⟩:=hz
 have hnews:Cells (A++(C++B)) (some ⟨xb,0,none⟩) (1*k) (rows [r]):=.inr ⟨rfl,_,_,_,hx,by simp[hr],by simp[rows];rw[←hr,List.take_length]⟩
 have hnone:∀u∈(rows [r]).toList,u.oneCell'=true:=by simpa[rows]using h1
 rcases h with⟨rfl,rfl,rfl⟩|⟨b,bF,rfl,rfl,aP⟩
 ·refine⟨none,0,0,some ⟨xb,0,none⟩,1,xc,#[],rows [r],rfl,rfl,rfl,hnews,by rw[bu CW];simp,by simp,hnone,fun h=>by omega,fun _=>⟨hb,by omega,fun eL hn b XV=>?_⟩⟩
  rw[show(#[]:Array Value)++rows [r]++Builtin.zeroCells zero.cells (eL-(0+1))=rows ([]++[r]++List.replicate (eL-1) z)by rw[KV,nj z Cv];simp only[Nat.zero_add,Array.empty_append,List.nil_append];rw[c8]]
  refine⟨_,aU.Mg [(b,_)] A B,hk _ [(b,_)] (.inr ⟨b,List.replicate (eL-1) z,?_,rfl,?_⟩)⟩
  ·simp;omega
  ·intro x hx
   rcases List.mem_append.1 hx with hx|hx
   ·exact CW x hx
   ·rw[List.eq_of_mem_replicate hx,Cv]
 ·have hsz:=bu aP
  have mu:∀x∈rs,x.length=k:=fun x hx=>aP x (by simp[hx])
  have hold:rows rs=(rows (rs++bF)).extract 0 (0+rs.length*k):=by
   rw[←c8]
   apply Array.ext'
   have:=bu mu
   have h2:(rows rs).toList.length=rs.length*k:=by rw[Array.length_toList];exact this
   rw[Array.toList_extract,Array.toList_append,List.extract_eq_take_drop,List.drop_zero,Nat.zero_add,Nat.sub_zero,←h2,List.take_left]
  refine⟨some ⟨b,0,none⟩,rs.length,rs.length+bF.length,some ⟨xb,0,none⟩,1,xc,rows rs,rows [r],rfl,rfl,.inr ⟨rfl,_,elem,(0,0),by simp,?_,hold⟩,hnews,by rw[bu CW];simp,bu mu,hnone,fun hfit=>?_,fun hgrow=>⟨hb,by omega,fun eL hn b' XV=>?_⟩⟩
  ·rw[hsz];simp only[List.length_append,Nat.zero_add];exact Nat.mul_le_mul_right _ (by omega)
  ·obtain⟨j0,G9,rfl⟩:∃j0 G9,bF=j0::G9:=by cases bF with|nil=>exact absurd hfit (by simp only[List.length_nil];omega)|cons a b=>exact⟨a,b,rfl⟩
   refine⟨_,elem,_,rfl,?_,((dH.head _).append B).dD A,hk _ [(b,_)] (.inr ⟨b,G9,?_,?_,?_⟩)⟩
   ·rw[hsz];simp[Nat.succ_mul,Nat.add_mul]
   ·simp;omega
   ·have e:(rows [r]).toList=r:=by simp[rows]
    rw[e,show(⟨b,0,none⟩:Addr).off+rs.length*k=rs.length*k by simp,we aP (by simp) hr]
    simp
   ·intro x hx
    simp only[List.append_assoc,List.cons_append,List.nil_append,List.mem_append,List.mem_cons]at hx
    rcases hx with hx|hx|hx
    ·exact mu x hx
    ·rw[hx];exact hr
    ·exact aP x (by simp[hx])
  ·refine⟨A++([(b',_)]++B),?_,hk _ [(b',_)] (.inr ⟨b',List.replicate (eL-(rs.length+1)) z,?_,rfl,?_⟩)⟩
   ·rw[KV,nj z Cv,c8,c8]
    exact fun g w h=>(aU.Rl [[_],A,[_],B] [[_],A,[_],B] ((List.perm_append_comm (l₁:=[_,A]) (l₂:=[_])).append_right [B]|>.trans (.cons _ (.swap _ _ _))) g w h).tail
   ·simp;omega
   ·intro x hx
    rcases List.mem_append.1 hx with hx|hx
    ·rcases List.mem_append.1 hx with hx|hx
     ·exact mu x hx
     ·exact CW x hx
    ·rw[List.eq_of_mem_replicate hx,Cv]
end
end Go.Sx
namespace Go.Sx
open Go
section
variable {P:Program} {g:Gh} {H:Hp}
theorem aQ.pos{T:TypeId}{k:Nat}{v:Value}{rs:List (List Value)}{C:Hp}(h:aQ T k v rs C)(hp:0<rs.length):
  ∃b bF,v=.slice (some ⟨b,0,none⟩) rs.length (rs.length+bF.length)∧C=[(b,.cells (rows (rs++bF)) T (0,0))]∧(∀r∈rs++bF,r.length=k):=by
 rcases h with⟨_,rfl,_⟩|h
 ·simp at hp
 ·exact h
theorem aQ.mk{T:TypeId}{k b:Nat}{rs bF:List (List Value)}(aP:∀r∈rs++bF,r.length=k):aQ T k (.slice (some ⟨b,0,none⟩) rs.length (rs.length+bF.length)) rs [(b,.cells (rows (rs++bF)) T (0,0))]:=
 .inr ⟨b,bF,rfl,rfl,aP⟩
theorem aQ.mk'{T:TypeId}{k b n c:Nat}{rs bF:List (List Value)}(aP:∀r∈rs++bF,r.length=k)(hn:n=rs.length)(hc:c=rs.length+bF.length):aQ T k (.slice (some ⟨b,0,none⟩) n c) rs [(b,.cells (rows (rs++bF)) T (0,0))]:=by
 subst hn;subst hc;exact aQ.mk aP
theorem aC.row{b i k:Nat}{l:List (List Value)}{T:TypeId}{fz:Nat×Nat}{r:List Value}{K:Value→Prop}(hm:(b,Obj.cells (rows l) T fz)∈H)(aP:∀r∈l,r.length=k)(hi:l[i]? =some r)(h:K (.agg r.toArray)):
  aC k H (.pointer (some ⟨b,0+i*k,none⟩)) K:=by
 have hlt:=(List.getElem?_eq_some_iff.1 hi).1
 refine aC.mk hm ?_ ?_ h
 ·rw[bu aP,Nat.zero_add];have:=Nat.mul_le_mul_right k (Nat.succ_le_of_lt hlt);rwa [Nat.succ_mul]at this
 ·rw[Nat.zero_add];exact uz aP hi
theorem Ld.row{b i j k:Nat}{l:List (List Value)}{T:TypeId}{fz:Nat×Nat}{r:List Value}{v:Value}{K:Value→Prop}(hm:(b,Obj.cells (rows l) T fz)∈H)(aP:∀r∈l,r.length=k)(hi:l[i]? =some r)(hv:r[j]? =some v)(h:K v):
  Ld H (.pointer (some ⟨b,0+i*k+j,none⟩)) K:=by
 have hr:=aP r (List.mem_of_getElem? hi)
 have hj:j<k:=by rw[←hr];exact(List.getElem?_eq_some_iff.1 hv).1
 refine Ld.mk hm ?_ h
 rw[Nat.zero_add,fK aP hj,hi];exact hv
theorem Ld.Rn{b i:Nat}{l:List (List Value)}{T:TypeId}{fz:Nat×Nat}{v:Value}{K:Value→Prop}(hm:(b,Obj.cells (rows l) T fz)∈H)(aP:∀r∈l,r.length=1)(hi:l[i]? =some [v])(h:K v):
  Ld H (.pointer (some ⟨b,0+i*1,none⟩)) K:=by
 have:=Ld.row (j:=0) hm aP hi rfl h
 simpa using this
theorem St.row{b i k:Nat}{l:List (List Value)}{T:TypeId}{r:List Value}{H':Hp}{K:Hp→Prop}(hu:dH b (.cells (rows l) T (0,0)) (.cells (rows (l.set i r)) T (0,0)) H H')(aP:∀r∈l,r.length=k)(hi:i<l.length)
 (hr:r.length=k)(h1:∀v∈r,v.oneCell'=true)(h:K H'):St k H (.pointer (some ⟨b,0+i*k,none⟩)) (.agg r.toArray) K:=by
 refine St.mk hu (by simp[Value.cells,hr]) ?_ (by simpa[Value.cells]using h1) ?_ h
 ·rw[bu aP,Nat.zero_add];have:=Nat.mul_le_mul_right k (Nat.succ_le_of_lt hi);rwa [Nat.succ_mul]at this
 ·simp only[Value.cells,Nat.zero_add];exact we aP hi hr
theorem mj{k:Nat}{l:List (List Value)}(h:∀r∈l,r.length=k){i j:Nat}{r:List Value}(hi:l[i]? =some r)(hj:j<k)(v:Value):(rows l).setIfInBounds (i*k+j) v=rows (l.set i (r.set j v)):=by
 have hr:=h r (List.mem_of_getElem? hi)
 have hlt:=(List.getElem?_eq_some_iff.1 hi).1
 have SN:∀x∈l.set i (r.set j v),x.length=k:=fun x hx=>by
  rcases List.mem_or_eq_of_mem_set hx with hx|hx
  ·exact h x hx
  ·rw[hx,List.length_set];exact hr
 have hk:0<k:=by omega
 apply Array.ext'
 apply List.ext_getElem?
 intro m
 rw[Array.getElem?_toList,Array.getElem?_toList,Array.getElem?_setIfInBounds]
 have hm:m%k<k:=Nat.mod_lt _ hk
 have he:m/k*k+m%k=m:=by rw[Nat.mul_comm];exact Nat.div_add_mod m k
 have g1:=fK h (i:=m/k) hm
 have g2:=fK SN (i:=m/k) hm
 rw[he]at g1 g2
 rw[g1,g2]
 by_cases e:i*k+j=m
 ·have e1:m/k=i:=by rw[←e,Nat.mul_comm,Nat.mul_add_div hk,Nat.div_eq_of_lt hj,Nat.add_zero]
  have e2:m%k=j:=by rw[←e,Nat.mul_comm,Nat.mul_add_mod,Nat.mod_eq_of_lt hj]
  rw[if_pos e,if_pos (by rw[bu h];have:=Nat.mul_le_mul_right k (Nat.succ_le_of_lt hlt);rw[Nat.succ_mul]at this;omega),e1,e2]
  simp[hlt,hr,hj]
 ·rw[if_neg e]
  by_cases e1:m/k=i
  ·have e2:j≠m%k:=fun e2=>e (by rw[e2,←e1];exact he)
   rw[e1,hi]
   simp[hlt,e2]
  ·rw[List.getElem?_set_ne (fun x=>e1 x.symm)]
theorem St.cell{b i j k:Nat}{l:List (List Value)}{T:TypeId}{r:List Value}{v:Value}{H':Hp}{K:Hp→Prop}(hu:dH b (.cells (rows l) T (0,0)) (.cells (rows (l.set i (r.set j v))) T (0,0)) H H')(aP:∀r∈l,r.length=k)
 (hi:l[i]? =some r)(hj:j<k)(h1:v.oneCell'=true)(h:K H'):St 1 H (.pointer (some ⟨b,0+i*k+j,none⟩)) v K:=by
 have hlt:=(List.getElem?_eq_some_iff.1 hi).1
 have hc:v.cells=#[v]:=by cases v<;>first|rfl|(simp[Value.oneCell']at h1)
 refine St.mk hu (by simp[hc]) ?_ (by simp[hc,h1]) ?_ h
 ·rw[bu aP,Nat.zero_add];have:=Nat.mul_le_mul_right k (Nat.succ_le_of_lt hlt);rw[Nat.succ_mul]at this;omega
 ·simp only[hc,Nat.zero_add,gN];exact mj aP hi hj v
theorem St.one{b off:Nat}{c c':Array Value}{T:TypeId}{v:Value}{H':Hp}{K:Hp→Prop}(hu:dH b (.cells c T (0,0)) (.cells c' T (0,0)) H H')(h1:v.oneCell'=true)(hs:off<c.size)(hc:c.setIfInBounds off v=c')(h:K H'):
  St 1 H (.pointer (some ⟨b,off,none⟩)) v K:=by
 have hv:v.cells=#[v]:=by cases v<;>first|rfl|(simp[Value.oneCell']at h1)
 exact St.mk hu (by simp[hv]) (by omega) (by simp[hv,h1]) (by simpa[hv,gN]using hc) h
theorem St.whole{b n:Nat}{c:Array Value}{T:TypeId}{r:List Value}{H':Hp}{K:Hp→Prop}(hu:dH b (.cells c T (0,0)) (.cells r.toArray T (0,0)) H H')(hs:c.size=n)(hr:r.length=n)(h1:∀v∈r,v.oneCell'=true)(h:K H'):
  St n H (.pointer (some ⟨b,0,none⟩)) (.agg r.toArray) K:=by
 refine St.mk hu (by simp[Value.cells,hr]) (by omega) (by simpa[Value.cells]using h1) ?_ h
 have:=nA r c.toList 0 (by simp;omega)
 rw[Array.toArray_toList]at this
 simp only[Value.cells]
 rw[this]
 simp[List.drop_eq_nil_of_le,hr,hs]
theorem aC.whole{b n:Nat}{r:List Value}{T:TypeId}{fz:Nat×Nat}{K:Value→Prop}(hm:(b,Obj.cells r.toArray T fz)∈H)(hr:r.length=n)(h:K (.agg r.toArray)):aC n H (.pointer (some ⟨b,0,none⟩)) K:=
 aC.mk hm (by simp[hr]) (by simp;rw[←hr,List.take_length]) h
theorem jL{α β:Type}(f:α→β):∀(l:List α) (i:Nat),(l.map f).eraseIdx i=(l.eraseIdx i).map f
 | [],_=>rfl
 |x::l,0=>rfl
 |x::l,i+1=>by simp[jL f l i]
end
end Go.Sx
namespace Go.Sx
open Go
section
variable {P:Program} {g:Gh} {H:Hp}
theorem qY(off:Nat):∀(r:List Value) (i:Nat) (c:Array Value),(r.zipIdx i).foldl (fun cs (x:Value×Nat)=>cs.setIfInBounds (off+x.2) x.1) c=gN c (off+i) r
 | [],i,c=>rfl
 |v::r,i,c=>by
  rw[List.zipIdx_cons,List.foldl_cons,qY off r (i+1)]
  rfl
theorem EB(off:Nat)(a c:Array Value):a.zipIdx.foldl (fun cs (x:Value×Nat)=>cs.setIfInBounds (off+x.2) x.1) c=gN c off a.toList:=by
 rw[←Array.foldl_toList]
 have:a.zipIdx.toList=a.toList.zipIdx 0:=by simp
 rw[this,qY off a.toList 0 c];rfl
def wk:List Value→Nat→List Value→List Value
 |c,_,[]=>c
 |c,off,v::r=>wk (c.set off v) (off+1) r
theorem mN:∀(r c:List Value) (off:Nat),gN c.toArray off r=(wk c off r).toArray
 | [],c,off=>rfl
 |v::r,c,off=>by
  have:c.toArray.setIfInBounds off v=(c.set off v).toArray:=by simp
  rw[gN,wk,this,mN r]
def tG(place:Nat→Option (Nat×Nat)):List Value→List (Nat×Value)→Option (List Value)
 |c,[]=>some c
 |c,(i,v)::r=>
  match place i with
  |none=>none
  |some (off,size)=>cond (Nat.beq v.cells.toList.length size&&Nat.ble (off+v.cells.toList.length) c.length) (tG place (wk c off v.cells.toList) r) none
theorem mQ{place:Nat→Option (Nat×Nat)}:∀(r:List (Nat×Value)) (c cs:List Value),tG place c r=some cs→Instr.fill place c.toArray r=some cs.toArray
 | [],c,cs,h=>by simp only[tG,Option.some.injEq]at h;subst h;rfl
 |(i,v)::r,c,cs,h=>by
  simp only[tG]at h
  simp only[Instr.fill]
  split at h
  ·simp at h
  ·rename_i off size hp
   cases hc:(Nat.beq v.cells.toList.length size&&Nat.ble (off+v.cells.toList.length) c.length)<;>simp only[hc,cond_true,cond_false,reduceCtorEq]at h
   simp only[Bool.and_eq_true]at hc
   have h1:=Nat.eq_of_beq_eq_true hc.1
   have h2:=Nat.le_of_ble_eq_true hc.2
   have h3:v.cells.toList.length=v.cells.size:=Array.length_toList
   have hsz:v.cells.size=size:=by rw[←h3];exact h1
   have hle:off+v.cells.size≤c.length:=by rw[←h3];exact h2
   simp only[hp]
   have HT:(decide (v.cells.size≠size)||decide (off+v.cells.size>c.toArray.size))=false:=by
    rw[Bool.or_eq_false_iff];exact⟨by simp[hsz],by simp only[List.size_toArray,decide_eq_false_iff_not];omega⟩
   rw[HT]
   simp only[Bool.false_eq_true,if_false]
   rw[EB,mN]
   exact mQ r _ cs h
def nv(P:Program):List Field→Option (List (Nat×Nat))
 | []=>some []
 |f::r=>match cN P f.type,nv P r with
  |some n,some l=>some ((f.offset,n)::l)
  |_,_=>none
def II(P:Program)(t:TypeId)(parts:List (Nat×Value)):Option (List Value):=
 match P.underlying t,dX P t with
 |some (.struct fs),some z=>match nv P fs.toList with
  |some pl=>tG (fun i=>pl[i]?) z.cells.toList parts
  |none=>none
 |_,_=>none
theorem o6:∀(fs:List Field) (pl:List (Nat×Nat)),nv P fs=some pl→∀w,(fs.mapM fun f=>(do pure (f.offset,←sizeOf f.type):Sem (Nat×Nat))).run P w=.ok pl w
 | [],pl,h,w=>by simp only[nv,Option.some.injEq]at h;subst h;rfl
 |f::r,pl,h,w=>by
  simp only[nv]at h
  split at h
  ·rename_i n l hn hl
   simp only[Option.some.injEq]at h;subst h
   obtain⟨i,hi,hin⟩:=aZ hn
   have ih:=o6 r l hl w
   simp only[List.mapM_cons,Sem.run_bind,run_sizeOf hi,Result.andThen_ok,Sem.run_pure,hin,ih]
  ·simp at h
theorem Build.mk{t:TypeId}{parts:List (Nat×Value)}{cs:List Value}{k:Value→Prop}(hb:II P t parts=some cs)(h:k (.agg cs.toArray)):Build P t parts k:=by
 refine⟨_,fun w=>?_,h⟩
 unfold II at hb
 split at hb
 ·rename_i fs z hu hz
  split at hb
  ·rename_i pl Em
   obtain⟨i,hi,sB⟩:=cj hz
   have hf:=mQ _ _ _ hb
   have hp:=o6 fs.toList pl Em w
   simp only[Instr.build,Sem.run_bind,di hi sB,Result.andThen_ok,run_underlying hu]
   have e2:((fs.mapM fun f=>(do pure (f.offset,←sizeOf f.type):Sem (Nat×Nat))).run P w)=.ok pl.toArray w:=by
    rw[Array.mapM_eq_mapM_toList]
    simp only[Sem.run_map,hp,Result.andThen_ok]
   rw[e2]
   show Sem.run P _ w=_
   have e3:Instr.fill (fun x=>pl.toArray[x]?) z.cells parts=some cs.toArray:=by
    simpa using hf
   simp only[e3]
   rfl
  ·simp at hb
 ·simp at hb
theorem au.one{t e k:Nat}{z:Value}{r:List Value}{K:Value→Hp→Prop}(h1:P.underlying t=some (.slice e))(h2:cN P e=some k)(h3:dX P e=some z)(hk:0<k∧k≤16777216)(hr:r.length=k)
 (h:∀b,K (.slice (some ⟨b,0,none⟩) 1 1) ((b,.cells r.toArray e (0,0))::H)):au P t 1 [(0,.agg r.toArray)] H K:=by
 refine⟨r.toArray,e,k,z,h1,h2,h3,by omega,?_,fun b _=>h b⟩
 have:((Array.range (1*k)).map (z.cells[· %z.cells.size]!))=(((Array.range (1*k)).map (z.cells[· %z.cells.size]!)).toList).toArray:=by rw[Array.toArray_toList]
 rw[this]
 generalize hc:((Array.range (1*k)).map (z.cells[· %z.cells.size]!)).toList=c
 have hlen:c.length=k:=by rw[←hc];simp
 refine mQ _ _ _ ?_
 simp only[tG,Value.cells]
 have hb:(Nat.beq r.toArray.toList.length k&&Nat.ble (0*k+r.toArray.toList.length) c.length)=true:=by simp[hr,hlen]
 rw[hb]
 simp only[cond_true,Option.some.injEq]
 have:=nA r c 0 (by omega)
 rw[mN]at this
 have h5:wk c 0 r=List.take 0 c++r++List.drop (0+r.length) c:=by simpa using congrArg Array.toList this
 simp only[Nat.zero_mul]
 rw[h5]
 simp[List.drop_eq_nil_of_le,hr,hlen]
end
end Go.Sx
namespace Go.Sx
open Go
section
variable {P:Program} {g:Gh} {H:Hp}
theorem fG.upto{size n c h:Nat}{a:Option Addr}{kd:IntKind}{k:Value→Prop}(hh:h≤c)(hk:k (.slice a h c)):fG size (.slice a n c) none (some (.int kd (h:Int))) k:=by
 refine⟨a,n,c,0,h,rfl,rfl,rfl,by omega,by omega,by omega,?_⟩
 have:(if c=(0:Int).toNat then a else a.map (·.add ((0:Int).toNat*size)))=a:=by
  split
  ·rfl
  ·simp only[Int.toNat_zero,Nat.zero_mul]
   cases a with
   |none=>rfl
   |some x=>simp[Addr.add_zero']
 rw[this]
 simpa using hk
end
end Go.Sx
namespace Go.Sx
open Go
section
variable {P:Program} {g:Gh} {H:Hp}
inductive bP(C:Hp):Hp→(Hp→Hp)→Prop
 |here:bP C C (fun X=>X)
 |left {A:Hp}:bP C (C++A) (fun X=>X++A)
 |cons {x:Nat×Obj} {H:Hp} {c:Hp→Hp} (h:bP C H c):bP C (x::H) (fun X=>x::c X)
 |app {A H:Hp} {c:Hp→Hp} (h:bP C H c):bP C (A++H) (fun X=>A++c X)
theorem bP.spec{C H:Hp}{c:Hp→Hp}(h:bP C H c):H=c C∧∃F,∀X,(c X).Perm (X++F):=by
 induction h with
 |here=>exact⟨rfl,[],fun X=>by simp⟩
 | @left A=>exact⟨rfl,A,fun X=>.refl _⟩
 | @cons x H c h ih=>
  obtain⟨h1,F,h2⟩:=ih
  exact⟨by rw[h1],x::F,fun X=>(List.Perm.cons x (h2 X)).trans List.perm_middle.symm⟩
 | @app A H c h ih=>
  obtain⟨h1,F,h2⟩:=ih
  refine⟨by rw[h1],A++F,fun X=>(List.Perm.append_left A (h2 X)).trans ?_⟩
  rw[←List.append_assoc,←List.append_assoc];exact List.perm_append_comm.append_right F
theorem bP.iQ{C H:Hp}{c:Hp→Hp}(h:bP C H c){X Y:Hp}(e:aU X Y):aU (c X) (c Y):=by
 obtain⟨_,F,hp⟩:=h.spec
 exact(aU.perm (hp X)).trans ((e.frame F).trans (.perm (hp Y).symm))
theorem aU.cons{x:Nat×Obj}{A B:Hp}(h:aU A B):aU (x::A) (x::B):=aU.dj h [x]
theorem aU.skip{x:Nat×Obj}{A B:Hp}(h:aU A B):aU (x::A) B:=aU.tail.trans h
theorem aU.o3{X A B:Hp}(h:aU A B):aU (X++A) B:=aU.right.trans h
theorem aU.assoc{A B C:Hp}:aU ((A++B)++C) (A++(B++C)):=fun _ _ h=>by rw[←List.append_assoc];exact h
theorem aj.frame{f:FuncId}{args:Array Value}{C F:Hp}{R:Ending→Hp→Prop}(h:∀g,aj P g f args C R):aj P g f args (C++F) (fun e H'=>∃C',H'=C'++F∧R e C'):=by
 intro w hw
 exact((h (g.add F)) w (Own.dZ.1 hw)).mono fun e w' ⟨H',ho,hr⟩=>⟨_,Own.dZ.2 ho,H',rfl,hr⟩
theorem aj.hole{f:FuncId}{args:Array Value}{C H:Hp}{c:Hp→Hp}{R:Ending→Hp→Prop}(hh:bP C H c)(h:∀g,aj P g f args C R):aj P g f args H (fun e H'=>∃C',H'=c C'∧R e C'):=by
 obtain⟨rfl,F,hp⟩:=hh.spec
 exact((aj.frame (F:=F) h).pre (.perm (hp C))).post fun e H' ⟨C',h1,h2⟩=>⟨c C',by rw[h1];exact .perm (hp C').symm,C',rfl,h2⟩
def Fc(P:Program)(f:FuncId)(args:Array Value)(C:Hp)(Q:Value→Hp→Prop):Prop:=
 ∀g,aj P g f args C (fun e H'=>∃v j5,e=.returned v∧aU H' j5∧Q v j5)
def az(Q:Value→Hp→Prop):Ending→Hp→Prop:=fun e H'=>∃v j5,e=.returned v∧aU H' j5∧Q v j5
theorem az.mk{Q:Value→Hp→Prop}{v:Value}{H j5:Hp}(he:aU H j5)(h:Q v j5):az Q (.returned v) H:=⟨v,j5,rfl,he,h⟩
theorem az.here{Q:Value→Hp→Prop}{v:Value}{H:Hp}(h:Q v H):az Q (.returned v) H:=⟨v,H,rfl,.refl _,h⟩
theorem Fc.mono{f:FuncId}{args:Array Value}{C:Hp}{Q Q':Value→Hp→Prop}(h:Fc P f args C Q)(hq:∀v H,Q v H→Q' v H):Fc P f args C Q':=
 fun g=>(h g).mono fun e H' ⟨v,j5,h1,h2,h3⟩=>⟨v,j5,h1,h2,hq _ _ h3⟩
def Rd(P:Program)(f:FuncId)(args:Array Value)(B:Hp)(Q:Value→Prop):Prop:=Fc P f args B (fun v H=>H=B∧Q v)
theorem ag.fn{f:FuncId}{args:Array Value}{C H:Hp}{c:Hp→Hp}{Q:Value→Hp→Prop}{K:Value→Hp→Prop}{KP:List PanicEntry→Hp→Prop}(hh:bP C H c)(hc:Fc P f args C Q)
 (hk:∀v C',Q v C'→K v (c C')):ag P g f args H K KP:=
 (aj.hole hh hc).post fun e H' ⟨C',h1,v,C'',h2,h3,h4⟩=>⟨c C'',by rw[h1];exact hh.iQ h3,by subst h2;exact hk _ _ h4⟩
theorem ag.rd{f:FuncId}{args:Array Value}{B H:Hp}{c:Hp→Hp}{Q:Value→Prop}{K:Value→Hp→Prop}{KP:List PanicEntry→Hp→Prop}(hh:bP B H c)(hc:Rd P f args B Q)
 (hk:∀v,Q v→K v H):ag P g f args H K KP:=
 ag.fn hh hc fun v C' ⟨h1,h2⟩=>by subst h1;rw[←hh.spec.1];exact hk v h2
theorem cg.of{fv:Value}{args:Array Value}{K:Value→Hp→Prop}{KP:List PanicEntry→Hp→Prop}{f:FuncId}{first captured:Array Value}(hf:fv=.func (.func f) first captured)(hc:bh P f=true)
 (h:ag P g f (first++args++captured) H K KP):cg P g fv args H K KP:=⟨f,first,captured,hf,hc,h⟩
theorem DR.self{body:Hp→Prop}(h:body H):DR H body:=⟨H,.refl _,h⟩
theorem DR.of{R:Hp}{body:Hp→Prop}(e:aU H R)(h:body R):DR H body:=⟨R,e,h⟩
def At(B:Hp)(p:Value)(r:List Value):Prop:=∃b o c T fz,p=.pointer (some ⟨b,o,none⟩)∧(b,Obj.cells c T fz)∈B∧∀j v,r[j]? =some v→c[o+j]? =some v
theorem At.block{b:Nat}{l:List Value}{T:TypeId}{fz:Nat×Nat}{B:Hp}(h:(b,Obj.cells l.toArray T fz)∈B):At B (.pointer (some ⟨b,0,none⟩)) l:=
 ⟨b,0,_,T,fz,rfl,h,fun j v hj=>by simpa using hj⟩
theorem Ld.at{p v:Value}{r:List Value}{B:Hp}{k:Value→Prop}(h:At B p (v::r))(hs:∀x∈B,x∈H)(hk:k v):Ld H p k:=by
 obtain⟨b,o,c,T,fz,h1,h2,h3⟩:=h
 exact⟨b,o,c,T,fz,v,h1,hs _ h2,by simpa using h3 0 v rfl,hk⟩
theorem aa.at{p:Value}{r:List Value}{B:Hp}{j:Nat}{k:Value→Prop}(h:At B p r)(hk:∀q,At B q (r.drop j)→k q):aa j p k:=by
 obtain⟨b,o,c,T,fz,h1,h2,h3⟩:=h
 refine⟨b,o,h1,hk _ ⟨b,o+j,c,T,fz,rfl,h2,fun i v hi=>?_⟩⟩
 rw[List.getElem?_drop]at hi
 rw[Nat.add_assoc];exact h3 _ _ hi
theorem aC.at{p:Value}{r:List Value}{B:Hp}{n:Nat}{k:Value→Prop}(h:At B p r)(hn:r.length=n)(hp:0<n)(hs:∀x∈B,x∈H)(hk:k (.agg r.toArray)):aC n H p k:=by
 obtain⟨b,o,c,T,fz,h1,h2,h3⟩:=h
 have hsz:o+n≤c.size:=by
  have:=h3 (n-1) (r[n-1]'(by omega)) (List.getElem?_eq_getElem _)
  have:=(Array.getElem?_eq_some_iff.1 this).1
  omega
 refine⟨b,o,c,T,fz,h1,hs _ h2,hsz,?_⟩
 have:c.extract o (o+n)=r.toArray:=by
  apply Array.ext
  ·simp;omega
  ·intro i Sp CJ
   simp only[List.size_toArray]at CJ
   have:=h3 i r[i] (List.getElem?_eq_getElem _)
   rw[Array.getElem_extract]
   have:=(Array.getElem?_eq_some_iff.1 this).2
   simpa using this
 rw[this];exact hk
def Sl(k:Nat)(B:Hp)(v:Value)(rs:List (List Value)):Prop:=
 (∀r∈rs,r.length=k)∧
 ((∃a cap,v=.slice a 0 cap∧rs=[])∨∃b o cap c T fz,v=.slice (some ⟨b,o,none⟩) rs.length cap∧rs.length≤cap∧(b,Obj.cells c T fz)∈B∧o+rs.length*k≤c.size∧∀i r,rs[i]? =some r→∀j v,r[j]? =some v→c[o+i*k+j]? =some v)
theorem Sl.mono{k:Nat}{B B':Hp}{v:Value}{rs:List (List Value)}(h:Sl k B v rs)(hs:∀x∈B,x∈B'):Sl k B' v rs:=by
 obtain⟨h0,h⟩:=h
 refine⟨h0,?_⟩
 rcases h with h|⟨b,o,cap,c,T,fz,h1,h2,h3,h4⟩
 ·exact .inl h
 ·exact .inr ⟨b,o,cap,c,T,fz,h1,h2,hs _ h3,h4⟩
theorem Sl.nil(k:Nat)(B:Hp):Sl k B (.slice none 0 0) []:=⟨by simp,.inl ⟨_,_,rfl,rfl⟩⟩
theorem Sl.shape{k:Nat}{B:Hp}{v:Value}{rs:List (List Value)}(h:Sl k B v rs):∃a cap,v=.slice a rs.length cap∧rs.length≤cap:=by
 rcases h.2 with⟨a,cap,rfl,rfl⟩|⟨b,o,cap,c,T,fz,h1,h2,_⟩
 ·exact⟨_,_,rfl,Nat.zero_le _⟩
 ·exact⟨_,_,h1,h2⟩
theorem Sl.bS{k:Nat}{B:Hp}{v:Value}{rs:List (List Value)}(h:Sl k B v rs){K:Value→Prop}(hk:K (.int .i64 rs.length)):bA v K:=by
 obtain⟨a,c,rfl,_⟩:=h.shape;exact bA.mk hk
theorem ai.sl{k:Nat}{B:Hp}{v:Value}{rs:List (List Value)}{kd:IntKind}{i:Nat}{r:List Value}{K:Value→Prop}(h:Sl k B v rs)(hi:rs[i]? =some r)(hk:∀p,At B p r→K p):ai k v (.int kd (i:Int)) K:=by
 have hlt:=(List.getElem?_eq_some_iff.1 hi).1
 rcases h.2 with⟨a,cap,rfl,rfl⟩|⟨b,o,cap,c,T,fz,h1,h2,h3,h4,h5⟩
 ·simp at hlt
 ·subst h1
  refine ai.nat (by omega) (hk _ ⟨b,_,c,T,fz,rfl,h3,fun j v hj=>h5 i r hi j v hj⟩)
theorem Sl.cells{k:Nat}{B:Hp}{v:Value}{rs:List (List Value)}(h:Sl k B v rs):∃a cap,v=.slice a rs.length cap∧Cells B a (rs.length*k) (rows rs):=by
 rcases h.2 with⟨a,cap,rfl,rfl⟩|⟨b,o,cap,c,T,fz,h1,h2,h3,h4,h5⟩
 ·refine⟨a,cap,rfl,?_⟩
  cases a with
  |none=>simp[Cells,rows]
  |some a=>exact .inl ⟨by simp,rfl⟩
 ·refine⟨_,cap,h1,.inr ⟨rfl,c,T,fz,h3,h4,?_⟩⟩
  apply Array.ext
  ·rw[bu h.1];simp;omega
  ·intro i Sp CJ
   rw[bu h.1]at Sp
   have hk:0<k:=Nat.pos_of_ne_zero fun e=>by simp[e]at Sp
   have hd:i/k<rs.length:=Nat.div_lt_of_lt_mul (by rw[Nat.mul_comm];exact Sp)
   have hm:i%k<k:=Nat.mod_lt _ hk
   have he:i/k*k+i%k=i:=by rw[Nat.mul_comm];exact Nat.div_add_mod i k
   have hr:=h.1 rs[i/k] (List.getElem_mem hd)
   have g1:=fK h.1 (i:=i/k) hm
   rw[he,List.getElem?_eq_getElem hd,Option.bind_some,List.getElem?_eq_getElem (by omega)]at g1
   have g2:=h5 (i/k) _ (List.getElem?_eq_getElem hd) (i%k) _ (List.getElem?_eq_getElem (by omega))
   rw[Nat.add_assoc,he]at g2
   have e1:=(Array.getElem?_eq_some_iff.1 g1).2
   have e2:=(Array.getElem?_eq_some_iff.1 g2).2
   rw[Array.getElem_extract]
   exact e1.trans e2.symm
theorem Sl.kF{T:TypeId}{k:Nat}{v:Value}{rs:List (List Value)}{C:Hp}(h:aQ T k v rs C)(hk:0<k):Sl k C v rs:=by
 rcases h with⟨rfl,rfl,rfl⟩|⟨b,bF,rfl,rfl,aP⟩
 ·exact Sl.nil _ _
 ·refine⟨fun r hr=>aP r (by simp[hr]),.inr ⟨b,0,_,rows (rs++bF),T,(0,0),rfl,by omega,by simp,?_,fun i r hi j v hj=>?_⟩⟩
  ·rw[bu aP,List.length_append,Nat.zero_add];exact Nat.mul_le_mul_right _ (by omega)
  ·have hlt:=(List.getElem?_eq_some_iff.1 hi).1
   have hr:=aP r (List.mem_append_left _ (List.mem_of_getElem? hi))
   have KZ:j<k:=by rw[←hr];exact(List.getElem?_eq_some_iff.1 hj).1
   rw[Nat.zero_add,fK aP KZ,List.getElem?_append_left hlt,hi];exact hj
end
end Go.Sx
namespace Go.Sx
open Go
def aB:IntKind→Nat
 | .i8=>128| .i16=>32768| .i32=>2147483648| .i64=>9223372036854775808
 | .u8=>256| .u16=>65536| .u32=>4294967296| .u64=>18446744073709551616
theorem er{kd:IntKind}{n:Nat}(h:n<aB kd):kd.wrap (n:Int)=n:=by
 cases kd<;>simp only[aB]at h<;>simp only[IntKind.wrap,IntKind.bits,IntKind.signed,Bool.false_and,Bool.true_and,Bool.false_eq_true,if_false,decide_eq_true_eq]
 all_goals first
  |omega
  |(rw[if_neg (by simp;omega)];omega)
theorem wrap_u64(n:Int):IntKind.u64.wrap n=n%18446744073709551616:=by simp[IntKind.wrap,IntKind.bits,IntKind.signed]
theorem G3(kd:IntKind):aB kd≤2^kd.bits:=by cases kd<;>decide
def mV(a b:Nat):Nat:=a^^^(a&&&b)
theorem c9(a b j:Nat):(mV a b).testBit j=(a.testBit j&& !b.testBit j):=by
 unfold mV;rw[Nat.testBit_xor,Nat.testBit_and];cases a.testBit j<;>cases b.testBit j<;>rfl
theorem nY(a b:Nat):mV a b≤a:=by
 have:mV a b=a&&&mV a b:=by
  apply Nat.eq_of_testBit_eq;intro j
  rw[Nat.testBit_and,c9];cases a.testBit j<;>simp
 rw[this];exact Nat.and_le_left
theorem bits_nat{kd:IntKind}{a b:Nat}(ha:a<aB kd)(hb:b<aB kd):
  bits .and kd a b=((a&&&b:Nat):Int)∧bits .or kd a b=((a|||b:Nat):Int)∧bits .xor kd a b=((a^^^b:Nat):Int)∧bits .andNot kd a b=((mV a b:Nat):Int):=by
 have hl:=G3 kd
 have h1:(BitVec.ofInt kd.bits (a:Int)).toNat=a:=by rw[BitVec.ofInt_natCast,BitVec.toNat_ofNat,Nat.mod_eq_of_lt (by omega)]
 have h2:(BitVec.ofInt kd.bits (b:Int)).toNat=b:=by rw[BitVec.ofInt_natCast,BitVec.toNat_ofNat,Nat.mod_eq_of_lt (by omega)]
 obtain⟨n,hn⟩:∃n,aB kd=2^n:=by cases kd<;>first|exact⟨7,rfl⟩|exact⟨15,rfl⟩|exact⟨31,rfl⟩|exact⟨63,rfl⟩|exact⟨8,rfl⟩|exact⟨16,rfl⟩|exact⟨32,rfl⟩|exact⟨64,rfl⟩
 rw[hn]at ha hb
 refine⟨?_,?_,?_,?_⟩
 ·simp only[bits,BitVec.toNat_and,h1,h2]
  exact er (by rw[hn];exact Nat.lt_of_le_of_lt Nat.and_le_left ha)
 ·simp only[bits,BitVec.toNat_or,h1,h2]
  exact er (by rw[hn];exact Nat.or_lt_two_pow ha hb)
 ·simp only[bits,BitVec.toNat_xor,h1,h2]
  exact er (by rw[hn];exact Nat.xor_lt_two_pow ha hb)
 ·simp only[bits]
  have:(BitVec.ofInt kd.bits (a:Int) &&& ~~~BitVec.ofInt kd.bits (b:Int)).toNat=mV a b:=by
   apply Nat.eq_of_testBit_eq;intro j
   rw[c9,←BitVec.getLsbD,BitVec.getLsbD_and,BitVec.getLsbD_not,BitVec.getLsbD,BitVec.getLsbD,h1,h2]
   by_cases hj:j<kd.bits
   ·simp[hj]
   ·have:a.testBit j=false:=Nat.testBit_lt_two_pow (Nat.lt_of_lt_of_le ha (by rw[←hn];exact Nat.le_trans hl (Nat.pow_le_pow_right (by decide) (by omega))))
    simp[this]
  rw[this]
  exact er (by rw[hn];exact Nat.lt_of_le_of_lt (nY a b) ha)
section
variable {kd uO:IntKind} {a b:Nat} {k:Value→Prop}
theorem ae.nZ(ha:a<aB kd)(hb:b<aB kd)(h:k (.int kd ((a&&&b:Nat):Int))):ae .num .and (.int kd a) (.int kd b) k:=⟨_,by simp[fE,jH,(bits_nat ha hb).1],h⟩
theorem ae.Qo(ha:a<aB kd)(hb:b<aB kd)(h:k (.int kd ((a|||b:Nat):Int))):ae .num .or (.int kd a) (.int kd b) k:=⟨_,by simp[fE,jH,(bits_nat ha hb).2.1],h⟩
theorem ae.Nm(ha:a<aB kd)(hb:b<aB kd)(h:k (.int kd ((a^^^b:Nat):Int))):ae .num .xor (.int kd a) (.int kd b) k:=⟨_,by simp[fE,jH,(bits_nat ha hb).2.2.1],h⟩
theorem ae.IW(ha:a<aB kd)(hb:b<aB kd)(h:k (.int kd ((mV a b:Nat):Int))):ae .num .andNot (.int kd a) (.int kd b) k:=⟨_,by simp[fE,jH,(bits_nat ha hb).2.2.2],h⟩
theorem ae.ot(ha:a<aB kd)(h:k (.int kd ((a>>>b:Nat):Int))):ae .num .shr (.int kd a) (.int uO b) k:=by
 refine⟨_,?_,h⟩
 have h0:¬((b:Int)<0):=by omega
 simp only[fE,h0,if_false,Option.some.injEq,Value.int.injEq,true_and,Int.toNat_natCast]
 rw[Int.fdiv_eq_ediv_of_nonneg _ (Int.le_of_lt (Int.pow_pos (by decide))),Nat.shiftRight_eq_div_pow]
 have hl:=G3 kd
 by_cases hb:b≤kd.bits
 ·rw[Nat.min_eq_left hb];push_cast;rfl
 ·rw[Nat.min_eq_right (by omega)]
  have h1:a/2^kd.bits=0:=Nat.div_eq_of_lt (by omega)
  have h2:a/2^b=0:=Nat.div_eq_of_lt (Nat.lt_of_lt_of_le (by omega) (Nat.pow_le_pow_right (by decide) (by omega:kd.bits≤b)))
  have:(a:Int) / (2^kd.bits:Int)=((a/2^kd.bits:Nat):Int):=by push_cast;rfl
  rw[this,h1,h2]
theorem ae.yG(hb:b≤kd.bits)(hr:a<<<b<aB kd)(h:k (.int kd ((a<<<b:Nat):Int))):ae .num .shl (.int kd a) (.int uO b) k:=by
 refine⟨_,?_,h⟩
 have h0:¬((b:Int)<0):=by omega
 simp only[fE,h0,if_false,Option.some.injEq,Value.int.injEq,true_and,Int.toNat_natCast,Nat.min_eq_left hb]
 rw[←er hr,Nat.shiftLeft_eq];push_cast;rfl
theorem ae.yF(h:k (.int .u64 (((a<<<b)%18446744073709551616:Nat):Int))):ae .num .shl (.int .u64 a) (.int uO b) k:=by
 refine⟨_,?_,h⟩
 have h0:¬((b:Int)<0):=by omega
 simp only[fE,h0,if_false,Option.some.injEq,Value.int.injEq,true_and,Int.toNat_natCast,IntKind.bits,wrap_u64]
 rw[Nat.shiftLeft_eq]
 by_cases hb:b≤64
 ·rw[Nat.min_eq_left hb,Int.natCast_emod,Int.natCast_mul,Int.natCast_pow];rfl
 ·rw[Nat.min_eq_right (by omega)]
  have h1:(a*2^b)%18446744073709551616=0:=by
   have:2^b=18446744073709551616*2^(b-64):=by rw[show(18446744073709551616:Nat)=2^64 by rfl,←Nat.pow_add];congr 1;omega
   rw[this,Nat.mul_left_comm];exact Nat.mul_mod_right _ _
  rw[h1]
  exact Int.mul_emod_left _ _
theorem ae.aK(hr:a+b<aB kd)(h:k (.int kd ((a+b:Nat):Int))):ae .num .add (.int kd a) (.int kd b) k:=by
 refine ae.add ?_
 have:((a:Int)+(b:Int))=((a+b:Nat):Int):=by push_cast;rfl
 rw[this,er hr];exact h
theorem ae.bJ(ha:a<aB kd)(hb:b≤a)(h:k (.int kd ((a-b:Nat):Int))):ae .num .sub (.int kd a) (.int kd b) k:=by
 refine ae.sub ?_
 have:((a:Int) -(b:Int))=((a-b:Nat):Int):=by omega
 rw[this,er (by omega)];exact h
theorem ae.uH(hr:a*b<aB kd)(h:k (.int kd ((a*b:Nat):Int))):ae .num .mul (.int kd a) (.int kd b) k:=by
 refine ae.mul ?_
 have:((a:Int)*(b:Int))=((a*b:Nat):Int):=by push_cast;rfl
 rw[this,er hr];exact h
theorem ae.zf(ha:a<aB kd)(hb:b≠0)(h:k (.int kd ((a/b:Nat):Int))):ae .num .quo (.int kd a) (.int kd b) k:=by
 refine⟨_,?_,h⟩
 have h0:¬((b:Int)=0):=by omega
 simp only[fE,jH,if_true,h0,if_false]
 have:(a:Int).tdiv b=((a/b:Nat):Int):=by rw[Int.tdiv_eq_ediv_of_nonneg (by omega)];push_cast;rfl
 rw[this,er (Nat.lt_of_le_of_lt (Nat.div_le_self _ _) ha)]
theorem ae.jt{x y:Int}(h:k (.bool (decide (x=y)))):ae .num .eql (.int kd x) (.int kd y) k:=ae.eql (by rw[show(x==y)=decide (x=y)from by cases hb:decide (x=y)<;>simp_all];exact h)
theorem ae.c7{x y:Int}(h:k (.bool (decide (x≠y)))):ae .num .neq (.int kd x) (.int kd y) k:=ae.neq (by rw[show(x !=y)=decide (x≠y)from by cases hb:decide (x=y)<;>simp_all];exact h)
theorem ae.fO(h:k (.bool (decide (a=b)))):ae .num .eql (.int kd a) (.int kd b) k:=ae.jt (by simpa[Int.natCast_inj]using h)
theorem ae.GX(h:k (.bool (decide (a≠b)))):ae .num .neq (.int kd a) (.int kd b) k:=ae.c7 (by simpa[Int.natCast_inj]using h)
theorem ae.fq(h:k (.bool (decide (a<b)))):ae .num .lss (.int kd a) (.int kd b) k:=ae.lss (by simpa[Int.ofNat_lt]using h)
theorem ae.wD(h:k (.bool (decide (a≤b)))):ae .num .leq (.int kd a) (.int kd b) k:=ae.leq (by simpa[Int.ofNat_le]using h)
theorem ae.nP(h:k (.bool (decide (b<a)))):ae .num .gtr (.int kd a) (.int kd b) k:=ae.gtr (by simpa[Int.ofNat_lt]using h)
theorem ae.pe(h:k (.bool (decide (b≤a)))):ae .num .geq (.int kd a) (.int kd b) k:=ae.geq (by simpa[Int.ofNat_le]using h)
theorem aW.nat(ha:a<aB kd)(h:k (.int kd (a:Int))):aW kd (.int uO a) k:=aW.of (er ha) h
theorem aW.YW(h:k (.int .u8 ((a%256:Nat):Int))):aW .u8 (.int uO a) k:=aW.of (by simp[IntKind.wrap,IntKind.bits,IntKind.signed]) h
theorem Un.WG(ha:a<18446744073709551616)(h:k (.int .u64 (((18446744073709551616-a)%18446744073709551616:Nat):Int))):Un .neg (.int .u64 a) k:=by
 refine⟨_,?_,h⟩
 simp only[Uv,wrap_u64,Option.some.injEq,Value.int.injEq,true_and];omega
theorem Un.DE(ha:a<18446744073709551616)(h:k (.int .u64 ((18446744073709551615-a:Nat):Int))):Un .xor (.int .u64 a) k:=by
 refine⟨_,?_,h⟩
 have e:(if IntKind.u64.signed=true then(-1:Int)else IntKind.u64.max)=((18446744073709551615:Nat):Int):=by decide
 simp only[Uv,e,(bits_nat (kd:=.u64) (a:=18446744073709551615) (b:=a) (by decide) ha).2.2.1,Option.some.injEq,Value.int.injEq,true_and]
 congr 1
 have:18446744073709551615^^^a=18446744073709551615-a:=by
  have vI:a<2^64:=ha
  rw[show(18446744073709551615:Nat)=2^64-1 by rfl]
  apply Nat.eq_of_testBit_eq;intro j
  rw[Nat.testBit_xor,show 2^64-1-a=2^64-(a+1)by omega,Nat.testBit_two_pow_sub_succ vI,Nat.testBit_two_pow_sub_one]
  by_cases hj:j<64
  ·simp[hj]
  ·simp[hj];exact Nat.testBit_lt_two_pow (Nat.lt_of_lt_of_le vI (Nat.pow_le_pow_right (by decide) (by omega)))
 exact this
end
theorem Br.dec{p:Prop}[Decidable p]{t f:Prop}(h1:p→t)(h2:¬p→f):Br (.bool (decide p)) t f:=⟨_,rfl,fun h=>h1 (by simpa using h),fun h=>h2 (by simpa using h)⟩
theorem Br.dS{p:Prop}[Decidable p]{t f:Prop}(hp:p)(h1:t):Br (.bool (decide p)) t f:=Br.dec (fun _=>h1) fun h=>absurd hp h
theorem Br.aX{p:Prop}[Decidable p]{t f:Prop}(hp:¬p)(h1:f):Br (.bool (decide p)) t f:=Br.dec (fun h=>absurd h hp) fun _=>h1
end Go.Sx
namespace aD
open Go.Sx
def wN(n:Nat):Nat:=max 1 (2^n/64)
def cS(n:Nat):Nat:=if 6≤n then 18446744073709551615 else 2^2^n-1
structure eE(n:Nat)(ws:List Nat):Prop where
 vF:n≤16
 len:ws.length=wN n
 full:∀w∈ws,w≤cS n
instance (n:Nat)(ws:List Nat):Decidable (eE n ws):=decidable_of_iff (n≤16∧ws.length=wN n∧∀w∈ws,w≤cS n) ⟨fun⟨a,b,c⟩=>⟨a,b,c⟩,fun⟨a,b,c⟩=>⟨a,b,c⟩⟩
def bit(ws:List Nat)(x:Nat):Bool:=(ws.getD (x/64) 0).testBit (x%64)
def aI(x v:Nat)(b:Bool):Nat:=if b then x|||2^v else mV x (2^v)
theorem Nn(n:Nat):0<wN n:=Nat.le_max_left _ _
theorem BW{n:Nat}(h:6≤n):wN n=2^(n-6):=by
 unfold wN
 have:2^n/64=2^(n-6):=by
  rw[show(64:Nat)=2^6 by rfl,Nat.pow_div h (by decide)]
 rw[this];exact Nat.max_eq_right (Nat.two_pow_pos _)
theorem BV{n:Nat}(h:n<7):wN n=1:=by
 have:n=0∨n=1∨n=2∨n=3∨n=4∨n=5∨n=6:=by omega
 rcases this with rfl|rfl|rfl|rfl|rfl|rfl|rfl<;>rfl
theorem qc{n:Nat}(h:n≤16):wN n≤1024:=by
 by_cases h6:6≤n
 ·rw[BW h6];exact Nat.pow_le_pow_right (by decide) (by omega:n-6≤10)
 ·rw[BV (by omega)];decide
theorem nQ(n:Nat):cS n<18446744073709551616:=by
 unfold cS
 split
 ·decide
 ·have h1:2^n≤32:=Nat.pow_le_pow_right (n:=2) (by decide) (by omega:n≤5)
  have h2:2^2^n≤2^32:=Nat.pow_le_pow_right (by decide) h1
  omega
theorem eE.lt{n:Nat}{ws:List Nat}(h:eE n ws){w:Nat}(hw:w∈ws):w<18446744073709551616:=Nat.lt_of_le_of_lt (h.full w hw) (nQ n)
theorem rA{n w:Nat}(h:w≤cS n):w&&&cS n=w:=by
 unfold cS at*
 split at h
 ·rename_i h6
  rw[if_pos h6,show(18446744073709551615:Nat)=2^64-1 by rfl,Nat.and_two_pow_sub_one_eq_mod,Nat.mod_eq_of_lt (by omega)]
 ·rename_i h6
  rw[if_neg h6,Nat.and_two_pow_sub_one_eq_mod,Nat.mod_eq_of_lt]
  have:=Nat.two_pow_pos (2^n);omega
theorem jA(n j:Nat):(cS n).testBit j=decide (j<if 6≤n then 64 else 2^n):=by
 unfold cS
 split
 ·rw[show(18446744073709551615:Nat)=2^64-1 by rfl,Nat.testBit_two_pow_sub_one]
 ·rw[Nat.testBit_two_pow_sub_one]
theorem wz{n x:Nat}(h:x<2^n):x/64<wN n:=by
 by_cases h6:6≤n
 ·rw[BW h6]
  refine Nat.div_lt_of_lt_mul ?_
  rw[show(64:Nat)=2^6 by rfl,←Nat.pow_add]
  rwa [show 6+(n-6)=n by omega]
 ·have h1:2^n≤32:=Nat.pow_le_pow_right (n:=2) (by decide) (by omega:n≤5)
  rw[BV (by omega)];omega
theorem eE.ext{n:Nat}{a b:List Nat}(ha:eE n a)(hb:eE n b)(h:∀x,x<2^n→bit a x=bit b x):a=b:=by
 apply List.ext_getElem (by rw[ha.len,hb.len])
 intro i h1 h2
 apply Nat.eq_of_testBit_eq
 intro j
 have XO:=rA (ha.full _ (List.getElem_mem h1))
 have Sz:=rA (hb.full _ (List.getElem_mem h2))
 by_cases hj:j<(if 6≤n then 64 else 2^n)
 ·have ado:j<64:=by
   split at hj
   ·exact hj
   ·have h1:2^n≤32:=Nat.pow_le_pow_right (n:=2) (by decide) (by omega:n≤5)
    omega
  have hx:64*i+j<2^n:=by
   by_cases h6:6≤n
   ·have hi:i<2^(n-6):=by rw[←BW h6,←ha.len];exact h1
    have:2^n=64*2^(n-6):=by rw[show(64:Nat)=2^6 by rfl,←Nat.pow_add];congr 1;omega
    omega
   ·have hi:i<1:=by rw[←BV (show n<7 by omega),←ha.len];exact h1
    rw[if_neg h6]at hj;omega
  have:=h _ hx
  unfold bit at this
  rw[show(64*i+j) /64=i by omega,show(64*i+j)%64=j by omega]at this
  simpa[h1,h2]using this
 ·have hd:(cS n).testBit j=false:=by rw[jA];simpa using hj
  rw[←XO,←Sz,Nat.testBit_and,Nat.testBit_and,hd];simp
def vg(v:Nat):Nat→Nat
 |0=>0
 |j+1=>vg v j|||(((j>>>v) &&&1)<<<j)
def mask(v:Nat):Nat:=vg v 64
theorem fF(m:Nat):m&&&1=if m.testBit 0 then 1 else 0:=by
 rw[Nat.and_one_is_mod,Nat.testBit_zero]
 rcases Nat.mod_two_eq_zero_or_one m with h|h<;>simp[h]
theorem nm(v:Nat):∀J k,(vg v J).testBit k=(decide (k<J) &&k.testBit v)
 |0,k=>by simp[vg]
 |J+1,k=>by
  rw[vg,Nat.testBit_or,nm v J k,fF,Nat.testBit_shiftRight,Nat.add_zero]
  by_cases e:k=J
  ·subst e
   cases hb:k.testBit v<;>simp[Nat.testBit_shiftLeft]
  ·have:((if(J.testBit v)=true then 1 else 0)<<<J).testBit k=false:=by
    rw[Nat.testBit_shiftLeft]
    split
    ·by_cases hk:J≤k
     ·have h1:Nat.testBit 1 (k-J)=false:=Nat.testBit_lt_two_pow (Nat.one_lt_two_pow (by omega))
      simp[hk,h1]
     ·simp[hk]
    ·simp
   rw[this]
   have:(decide (k<J+1))=decide (k<J):=by simp;omega
   rw[this];simp
theorem ve(v:Nat):∀J,vg v J<2^J
 |0=>by simp[vg]
 |J+1=>by
  have h1:=ve v J
  have h2:((J>>>v) &&&1)<<<J<2^(J+1):=by
   rw[fF,Nat.shiftLeft_eq]
   split
   ·rw[Nat.one_mul];exact Nat.pow_lt_pow_right (by decide) (by omega)
   ·rw[Nat.zero_mul];exact Nat.two_pow_pos _
  exact Nat.or_lt_two_pow (Nat.lt_of_lt_of_le h1 (Nat.pow_le_pow_right (by decide) (by omega))) h2
theorem eZ(v k:Nat):(mask v).testBit k=(decide (k<64) &&k.testBit v):=nm v 64 k
theorem ig(v:Nat):mask v<18446744073709551616:=ve v 64
def nO(ws:List Nat)(v:Nat)(b:Bool)(i:Nat):Nat:=
 if 6≤v then ws.getD (aI i (v-6) b) 0
 else if b then(ws.getD i 0&&&mask v)|||(ws.getD i 0&&&mask v)>>>2^v
 else mV (ws.getD i 0) (mask v)|||(mV (ws.getD i 0) (mask v)<<<2^v)%18446744073709551616
def jl(n:Nat)(ws:List Nat)(v:Nat)(b:Bool):List Nat:=(List.range (wN n)).map fun i=>nO ws v b i&&&cS n
theorem ir{n v:Nat}{ws:List Nat}{b:Bool}(h:n≤16):eE n (jl n ws v b):=by
 refine⟨h,by simp[jl],fun w hw=>?_⟩
 obtain⟨i,_,rfl⟩:=List.mem_map.1 hw
 exact Nat.and_le_right
theorem ay(x v:Nat)(b:Bool)(k:Nat):(aI x v b).testBit k=if k=v then b else x.testBit k:=by
 unfold aI
 cases b<;>simp only[if_true,Bool.false_eq_true,if_false]
 ·rw[c9,Nat.testBit_two_pow]
  by_cases e:k=v
  ·simp[e]
  ·simp[e,Ne.symm e]
 ·rw[Nat.testBit_or,Nat.testBit_two_pow]
  by_cases e:k=v
  ·simp[e]
  ·simp[e,Ne.symm e]
theorem Ks{x v n:Nat}{b:Bool}(hx:x<2^n)(hv:v<n):aI x v b<2^n:=by
 unfold aI
 split
 ·exact Nat.or_lt_two_pow hx (Nat.pow_lt_pow_right (by decide) hv)
 ·exact Nat.lt_of_le_of_lt (nY _ _) hx
theorem NP:∀v:Fin 6,∀j:Fin 64,(j.1.testBit v.1=true→aI j v true=j∧aI j v false=j-2^v.1∧2^v.1≤j.1∧(j.1+2^v.1).testBit v.1=false∧(j.1-2^v.1).testBit v.1=false)∧
  (j.1.testBit v.1=false→aI j v true=j.1+2^v.1∧j.1+2^v.1<64∧aI j v false=j∧(j.1+2^v.1).testBit v.1=true∧(2^v.1≤j.1→(j.1-2^v.1).testBit v.1=true)):=by decide+kernel
theorem mI{x v:Nat}{b:Bool}:(6≤v→aI x v b/64=aI (x/64) (v-6) b∧aI x v b%64=x%64)∧(v<6→aI x v b/64=x/64∧aI x v b%64=aI (x%64) v b):=by
 have vI:∀y:Nat,y/64=y>>>6:=fun y=>by rw[Nat.shiftRight_eq_div_pow]
 have m64:∀y:Nat,y%64=y%2^6:=fun y=>rfl
 refine⟨fun h=>⟨?_,?_⟩,fun h=>⟨?_,?_⟩⟩<;>apply Nat.eq_of_testBit_eq<;>intro k
 ·rw[vI,vI,Nat.testBit_shiftRight,ay,ay,Nat.testBit_shiftRight]
  by_cases e:k=v-6
  ·rw[if_pos e,if_pos (by omega)]
  ·rw[if_neg e,if_neg (by omega)]
 ·rw[m64 (aI x v b),m64 x,Nat.testBit_mod_two_pow,Nat.testBit_mod_two_pow,ay]
  by_cases hk:k<6
  ·rw[if_neg (by omega)]
  ·simp[hk]
 ·rw[vI,vI,Nat.testBit_shiftRight,ay,Nat.testBit_shiftRight,if_neg (by omega)]
 ·rw[m64 (aI x v b),m64 x,Nat.testBit_mod_two_pow,ay,ay,Nat.testBit_mod_two_pow]
  by_cases e:k=v
  ·subst e;simp[h]
  ·simp[e]
theorem nX{n v x:Nat}{ws:List Nat}{b:Bool}(hf:eE n ws)(hv:v<n)(hx:x<2^n):bit (jl n ws v b) x=bit ws (aI x v b):=by
 have hi:=wz hx
 unfold bit
 have fC:(jl n ws v b).getD (x/64) 0=nO ws v b (x/64) &&&cS n:=by
  simp[jl,hi]
 rw[fC,Nat.testBit_and,jA]
 have Sz:decide (x%64<if 6≤n then 64 else 2^n)=true:=by
  rw[decide_eq_true_eq]
  split
  ·exact Nat.mod_lt _ (by decide)
  ·have h1:2^n≤32:=Nat.pow_le_pow_right (n:=2) (by decide) (by omega:n≤5)
   omega
 rw[Sz,Bool.and_true]
 unfold nO
 by_cases h6:6≤v
 ·rw[if_pos h6,(mI.1 h6).1,(mI.1 h6).2]
 ·rw[if_neg h6]
  obtain⟨e1,e2⟩:=(mI (x:=x) (v:=v) (b:=b)).2 (by omega)
  rw[e1,e2]
  generalize hw:ws.getD (x/64) 0=w
  have UC:w<2^64:=by
   rw[←hw]
   rw[List.getD_eq_getElem?_getD,List.getElem?_eq_getElem (by rw[hf.len];exact hi)]
   exact hf.lt (List.getElem_mem _)
  have hj:x%64<64:=Nat.mod_lt _ (by decide)
  generalize x%64=j at hj
  obtain⟨s1,s2⟩:=NP ⟨v,by omega⟩ ⟨j,hj⟩
  simp only at s1 s2
  cases b
  ·simp only[Bool.false_eq_true,if_false]
   rw[show(18446744073709551616:Nat)=2^64 by rfl,Nat.testBit_or,Nat.testBit_mod_two_pow,Nat.testBit_shiftLeft,c9,c9,eZ,eZ]
   cases hb:j.testBit v
   ·obtain⟨t1,t2,t3,t4,t5⟩:=s2 hb
    rw[t3]
    by_cases hle:2^v≤j
    ·have:=t5 hle
     have vI:j-2^v<64:=Nat.lt_of_le_of_lt (Nat.sub_le _ _) hj
     simp[hj,this,vI]
    ·simp[hj,hle]
   ·obtain⟨t1,t2,t3,t4,t5⟩:=s1 hb
    rw[t2]
    simp[hj,t3,t5]
  ·simp only[if_true]
   rw[Nat.testBit_or,Nat.testBit_and,Nat.testBit_shiftRight,Nat.testBit_and,eZ,eZ]
   cases hb:j.testBit v
   ·obtain⟨t1,t2,t3,t4,t5⟩:=s2 hb
    rw[t1,Nat.add_comm (2^v) j]
    simp[hj,t2,t4]
   ·obtain⟨t1,t2,t3,t4,t5⟩:=s1 hb
    rw[t1,Nat.add_comm (2^v) j]
    simp[hj,t4]
def dep(n:Nat)(ws:List Nat)(v:Nat):Bool:=decide (jl n ws v false≠jl n ws v true)
theorem iW(x v:Nat):aI x v (x.testBit v)=x:=by
 apply Nat.eq_of_testBit_eq;intro k
 rw[ay]
 by_cases e:k=v
 ·rw[if_pos e,e]
 ·rw[if_neg e]
theorem LJ{n v:Nat}{ws:List Nat}(hf:eE n ws)(hv:v<n):dep n ws v=true↔∃x,x<2^n∧bit ws (aI x v false)≠bit ws (aI x v true):=by
 constructor
 ·intro h
  refine Classical.byContradiction fun hno=>?_
  have:jl n ws v false=jl n ws v true:=(ir hf.vF).ext (ir hf.vF) fun x hx=>by
   rw[nX hf hv hx,nX hf hv hx]
   exact Classical.byContradiction fun hne=>hno ⟨x,hx,hne⟩
  simp[dep,this]at h
 ·rintro⟨x,hx,hne⟩
  simp only[dep,ne_eq,decide_eq_true_eq]
  intro he
  apply hne
  rw[←nX hf hv hx,←nX hf hv hx,he]
end aD
namespace Go.Sx
open Go
inductive bG:Hp→Hp→Prop
 |refl (B:Hp):bG B B
 |cons {x:Nat×Obj} {B H:Hp} (h:bG B H):bG B (x::H)
 |app {N B H:Hp} (h:bG B H):bG B (N++H)
theorem bG.spec{B H:Hp}(h:bG B H):∃N,H=N++B:=by
 induction h with
 |refl=>exact⟨[],rfl⟩
 | @cons x B H h ih=>obtain⟨N,rfl⟩:=ih;exact⟨x::N,rfl⟩
 | @app M B H h ih=>obtain⟨N,rfl⟩:=ih;exact⟨M++N,by rw[List.append_assoc]⟩
theorem bG.sub{B H:Hp}(h:bG B H):∀x∈B,x∈H:=by
 obtain⟨N,rfl⟩:=h.spec;exact fun x hx=>List.mem_append_right _ hx
theorem bG.iQ{B H:Hp}(h:bG B H):aU H B:=by
 obtain⟨N,rfl⟩:=h.spec;exact aU.right
theorem bG.trans{A B C:Hp}(h:bG A B)(h':bG B C):bG A C:=by
 obtain⟨N,rfl⟩:=h'.spec;exact .app h
section
variable {P:Program} {g:Gh} {H:Hp}
def Px(P:Program)(f:FuncId)(args:Array Value)(B:Hp)(Q:Value→Hp→Prop):Prop:=Fc P f args B (fun v H=>bG B H∧Q v H)
theorem ag.px{f:FuncId}{args:Array Value}{B H:Hp}{c:Hp→Hp}{Q:Value→Hp→Prop}{K:Value→Hp→Prop}{KP:List PanicEntry→Hp→Prop}(hh:bP B H c)(hc:Px P f args B Q)
 (hk:∀v N,Q v (N++B)→K v (c (N++B))):ag P g f args H K KP:=
 ag.fn hh hc fun v C' ⟨h1,h2⟩=>by obtain⟨N,rfl⟩:=h1.spec;exact hk v N h2
theorem ag.pre{f:FuncId}{args:Array Value}{H':Hp}{K:Value→Hp→Prop}{KP:List PanicEntry→Hp→Prop}(he:aU H H')(h:ag P g f args H' K KP):ag P g f args H K KP:=aj.pre h he
theorem Du.mk{Q:Value→Hp→Prop}{v:Value}{B H:Hp}(he:bG B H)(h:Q v H):az (fun v H=>bG B H∧Q v H) (.returned v) H:=⟨v,H,rfl,.refl _,he,h⟩
theorem cr.mk{Q:Value→Prop}{v:Value}{B H:Hp}(he:aU H B)(h:Q v):az (fun v H=>H=B∧Q v) (.returned v) H:=⟨v,B,rfl,he,rfl,h⟩
def ax(kd:IntKind)(l:List Int):Array Value:=(l.map fun n=>Value.int kd n).toArray
theorem yY(kd:IntKind)(l:List Int)(i:Nat)(n:Int):(ax kd l).setIfInBounds i (.int kd n)=ax kd (l.set i n):=by
 simp[ax,List.map_set]
@[simp] theorem Mv(kd:IntKind)(l:List Int):(ax kd l).size=l.length:=by simp[ax]
theorem Ea(kd:IntKind)(n:Nat):madeCells (Value.cells (.int kd 0)) (n*1)=ax kd (List.replicate n 0):=by
 apply Array.ext
 ·simp[madeCells,ax]
 ·intro i h1 h2
  simp[madeCells,ax,Value.cells,Nat.mod_one]
def c6(kd:IntKind)(B:Hp)(v:Value)(l:List Int):Prop:=Sl 1 B v (l.map fun n=>[Value.int kd n])
theorem c6.mono{kd:IntKind}{B B':Hp}{v:Value}{l:List Int}(h:c6 kd B v l)(hs:∀x∈B,x∈B'):c6 kd B' v l:=Sl.mono h hs
theorem c6.bS{kd:IntKind}{B:Hp}{v:Value}{l:List Int}(h:c6 kd B v l){K:Value→Prop}(hk:K (.int .i64 l.length)):bA v K:=Sl.bS h (by simpa using hk)
theorem c6.block{kd:IntKind}{B:Hp}{b cap:Nat}{l:List Int}{T:TypeId}{fz:Nat×Nat}(hm:(b,Obj.cells (ax kd l) T fz)∈B)(hc:l.length≤cap):c6 kd B (.slice (some ⟨b,0,none⟩) l.length cap) l:=by
 refine⟨by simp,.inr ⟨b,0,cap,_,T,fz,by simp,by simpa using hc,hm,by simp[ax],fun i r hi j v hj=>?_⟩⟩
 rw[List.getElem?_map]at hi
 cases hl:l[i]? with
 |none=>rw[hl]at hi;simp at hi
 |some n=>
  rw[hl]at hi
  simp only[Option.map_some,Option.some.injEq]at hi
  subst hi
  cases j with
  |zero=>
   simp only[List.getElem?_cons_zero,Option.some.injEq]at hj
   subst hj
   simp[ax,hl]
  |succ j=>simp at hj
theorem c6.at{kd uO:IntKind}{B:Hp}{v:Value}{l:List Int}(h:c6 kd B v l){i:Nat}{n:Int}(hi:l[i]? =some n){K:Value→Prop}(hk:∀p,At B p [.int kd n]→K p):ai 1 v (.int uO (i:Int)) K:=
 ai.sl h (by rw[List.getElem?_map,hi];rfl) hk
theorem c6.ld{kd uO:IntKind}{B:Hp}{v:Value}{l:List Int}(h:c6 kd B v l){i:Nat}{n:Int}(hi:l[i]? =some n)(hs:∀x∈B,x∈H){K:Value→Prop}(hk:K (.int kd n)):ai 1 v (.int uO (i:Int)) (fun p=>Ld H p K):=
 h.at hi fun p hp=>Ld.at hp hs hk
theorem cW.ints{T:TypeId}{kd kl:IntKind}{bytes n:Nat}{K:Value→Hp→Prop}(bX:n≤9223372036854775807)(hb:n*bytes≤281474976710656)
 (h:∀b,K (.slice (some ⟨b,0,none⟩) n n) ((b,.cells (ax kd (List.replicate n 0)) T (0,0))::H)):cW T 1 bytes (.int kd 0) H (.int kl n) (.int kl n) K:=
 ⟨kl,kl,n,n,rfl,rfl,Nat.le_refl _,by omega,hb,fun b _=>by rw[Ea];exact h b⟩
theorem St.ints{b i:Nat}{kd:IntKind}{l:List Int}{x:Int}{T:TypeId}{H':Hp}{K:Hp→Prop}(hu:dH b (.cells (ax kd l) T (0,0)) (.cells (ax kd (l.set i x)) T (0,0)) H H')(hi:i<l.length)(h:K H'):
  St 1 H (.pointer (some ⟨b,0+i*1,none⟩)) (.int kd x) K:=
 St.one (c:=ax kd l) (c':=ax kd (l.set i x)) hu rfl (by simpa using hi) (by rw[Nat.zero_add,Nat.mul_one];exact yY kd l i x) h
end
def bR:List Value→Nat→Nat
 | .int _ q::_,0=>q.toNat
 |_::r,i+1=>bR r i
 |_,_=>0
structure Tb where
 n:Int
 ws:List Nat
 deriving DecidableEq
def iw(ws:List Nat):List Int:=ws.map (Nat.cast:Nat→Int)
@[simp] theorem aq(ws:List Nat):(iw ws).length=ws.length:=by simp[iw]
theorem cB{ws:List Nat}{i w:Nat}(h:ws[i]? =some w):(iw ws)[i]? =some (w:Int):=by simp[iw,h]
def Words(B:Hp)(s:Value)(ws:List Nat):Prop:=c6 .u64 B s (iw ws)∧∀w∈ws,w<18446744073709551616
theorem Words.mono{B B':Hp}{v:Value}{ws:List Nat}(h:Words B v ws)(hs:∀x∈B,x∈B'):Words B' v ws:=⟨h.1.mono hs,h.2⟩
theorem Words.block{B:Hp}{b cap:Nat}{ws:List Nat}{T:TypeId}{fz:Nat×Nat}(hm:(b,Obj.cells (ax .u64 (iw ws)) T fz)∈B)(hc:ws.length≤cap)(hw:∀w∈ws,w<18446744073709551616):Words B (.slice (some ⟨b,0,none⟩) ws.length cap) ws:=by
 have:=c6.block (cap:=cap) hm (by simpa using hc)
 rw[aq]at this
 exact⟨this,hw⟩
def zD(B:Hp)(v:Value)(t:Tb):Prop:=∃s,v=.agg #[.int .i64 t.n,s]∧Words B s t.ws
theorem zD.mono{B B':Hp}{v:Value}{t:Tb}(h:zD B v t)(hs:∀x∈B,x∈B'):zD B' v t:=let ⟨s,h1,h2⟩:=h;⟨s,h1,h2.mono hs⟩
def xL(B:Hp)(r:List Value)(t:Tb):Prop:=∃s,r=[.int .i64 t.n,s]∧Words B s t.ws
theorem xL.mono{B B':Hp}{r:List Value}{t:Tb}(h:xL B r t)(hs:∀x∈B,x∈B'):xL B' r t:=let ⟨s,h1,h2⟩:=h;⟨s,h1,h2.mono hs⟩
def ob{α:Type}(p:List Value→α→Prop)(rs:List (List Value))(l:List α):Prop:=rs.length=l.length∧∀(i:Nat) (r:List Value) (x:α),rs[i]? =some r→l[i]? =some x→p r x
theorem ob.nil{α:Type}{p:List Value→α→Prop}:ob p [] []:=⟨rfl,by simp⟩
theorem ob.get{α:Type}{p:List Value→α→Prop}{rs:List (List Value)}{l:List α}(h:ob p rs l){i:Nat}{x:α}(hx:l[i]? =some x):∃r,rs[i]? =some r∧p r x:=by
 have hlt:=(List.getElem?_eq_some_iff.1 hx).1
 have:i<rs.length:=by rw[h.1];exact hlt
 exact⟨rs[i],List.getElem?_eq_getElem this,h.2 i _ _ (List.getElem?_eq_getElem this) hx⟩
theorem ob.mono{α:Type}{p q:List Value→α→Prop}{rs:List (List Value)}{l:List α}(h:ob p rs l)(hpq:∀r x,p r x→q r x):ob q rs l:=⟨h.1,fun i r x h1 h2=>hpq _ _ (h.2 i r x h1 h2)⟩
def fo(B:Hp)(v:Value)(ts:List Tb):Prop:=∃rs,Sl 2 B v rs∧ob (xL B) rs ts
theorem fo.mono{B B':Hp}{v:Value}{ts:List Tb}(h:fo B v ts)(hs:∀x∈B,x∈B'):fo B' v ts:=let ⟨rs,h1,h2⟩:=h;⟨rs,h1.mono hs,h2.mono fun _ _ h=>h.mono hs⟩
theorem fo.bS{B:Hp}{v:Value}{ts:List Tb}(h:fo B v ts){K:Value→Prop}(hk:K (.int .i64 ts.length)):bA v K:=by
 obtain⟨rs,h1,h2⟩:=h;refine h1.bS ?_;have:=h2.1;rw[this];exact hk
theorem fo.ld{B H:Hp}{v:Value}{ts:List Tb}{kd:IntKind}(h:fo B v ts){i:Nat}{t:Tb}(hi:ts[i]? =some t)(hs:∀x∈B,x∈H){K:Value→Prop}(hk:∀s,Words B s t.ws→K (.agg #[.int .i64 t.n,s])):ai 2 v (.int kd (i:Int)) (fun p=>aC 2 H p K):=by
 obtain⟨rs,h1,h2⟩:=h
 obtain⟨r,hr,s,rfl,hw⟩:=h2.get hi
 exact ai.sl h1 hr fun p hp=>aC.at hp rfl (by decide) hs (hk s hw)
theorem fo.WR{B H:Hp}{v:Value}{ts:List Tb}{kd:IntKind}(h:fo B v ts){i:Nat}{t:Tb}(hi:ts[i]? =some t)(hs:∀x∈B,x∈H){K:Value→Prop}(hk:K (.int .i64 t.n)):ai 2 v (.int kd (i:Int)) (fun p=>aa 0 p (fun q=>Ld H q K)):=by
 obtain⟨rs,h1,h2⟩:=h
 obtain⟨r,hr,s,rfl,hw⟩:=h2.get hi
 exact ai.sl h1 hr fun p hp=>aa.at hp fun q hq=>Ld.at hq hs hk
theorem fo.one{B:Hp}{b cap:Nat}{t:Tb}{s:Value}{T:TypeId}{fz:Nat×Nat}(hm:(b,Obj.cells #[.int .i64 t.n,s] T fz)∈B)(hw:Words B s t.ws):fo B (.slice (some ⟨b,0,none⟩) 1 (cap+1)) [t]:=by
 refine⟨[[.int .i64 t.n,s]],⟨by simp,.inr ⟨b,0,cap+1,_,T,fz,rfl,by simp,hm,by simp,fun i r hi j v hj=>?_⟩⟩,rfl,fun i r x h1 h2=>?_⟩
 ·cases i with
  |zero=>simp at hi;subst hi;simpa using hj
  |succ i=>simp at hi
 ·cases i with
  |zero=>simp at h1 h2;subst h1;subst h2;exact⟨s,rfl,hw⟩
  |succ i=>simp at h1
def TF(t:Tb):Prop:=0≤t.n∧aD.eE t.n.toNat t.ws
instance (t:Tb):Decidable (TF t):=by unfold TF;infer_instance
end Go.Sx
namespace Go.Sx
open Go Go.RowKit
section
variable {P:Program}
def whole(W:World):Hp:=(List.range W.heap.size).map fun i=>(i,W.heap.getD i default)
theorem s9(W:World):Own ⟨W,[]⟩ (whole W) W:=by
 refine⟨rfl,rfl,rfl,?_,?_⟩
 ·have:(whole W).map Prod.fst=List.range W.heap.size:=by
   unfold whole
   rw[List.map_map]
   have:(Prod.fst∘fun i=>(i,W.heap.getD i default))=id:=by funext i;rfl
   rw[this,List.map_id]
  rw[List.append_nil,this];exact List.nodup_range
 ·intro x hx
  rw[List.append_nil]at hx
  obtain⟨i,hi,rfl⟩:=List.mem_map.1 hx
  have:=List.mem_range.1 hi
  simp[Array.getD_eq_getD_getElem?,this]
theorem ti{W:World}{b:Nat}{o:Obj}(h:W.heap[b]? =some o):(b,o)∈whole W:=by
 have hlt:=(Array.getElem?_eq_some_iff.1 h).1
 exact List.mem_map.2 ⟨b,List.mem_range.2 hlt,by simp[Array.getD_eq_getD_getElem?,h]⟩
theorem Own.below{W W':World}(h:Own ⟨W,[]⟩ (whole W) W'):Below W.heap.size W W':=by
 have hb:∀k,k<W.heap.size→W'.heap[k]? =W.heap[k]? :=fun k hk=>by
  have:=h.has (k,W.heap.getD k default) (List.mem_map.2 ⟨k,List.mem_range.2 hk,rfl⟩)
  simp only at this
  rw[this];simp[Array.getD_eq_getD_getElem?,hk]
 refine⟨h.os,h.tape,h.out,?_,hb⟩
 rcases Nat.eq_zero_or_pos W.heap.size with h0|h0
 ·omega
 ·have:=hb (W.heap.size-1) (by omega)
  rw[show W.heap[W.heap.size-1]? =some (W.heap[W.heap.size-1]'(by omega))from Array.getElem?_eq_getElem (by omega)]at this
  have:=(Array.getElem?_eq_some_iff.1 this).1
  omega
theorem Ec{f:FuncId}{args:Array Value}{W:World}(h:aj P ⟨W,[]⟩ f args (whole W) (fun e H'=>e=.returned (.bool true)∧aU H' (whole W))):
  Calls P f args W fun e W'=>e=.returned (.bool true)∧Below W.heap.size W W':=
 (h W (s9 W)).mono fun e W' ⟨H',ho,he,qO⟩=>⟨he,(qO _ _ ho).below⟩
theorem Oo{f:FuncId}{args:Array Value}{W:World}(h:Px P f args (whole W) (fun v _=>v=.bool true)):
  Calls P f args W fun e W'=>e=.returned (.bool true)∧Below W.heap.size W W':=
 Ec ((h ⟨W,[]⟩).post fun e H' ⟨v,C,he,qO,hg,hv⟩=>⟨H',.refl _,by rw[he,hv],qO.trans hg.iQ⟩)
section
variable {H:Type} {enc:TypeId×Value→H}
open Go.ChangeShapes Go.WideShapes Go.ChangeAt Go.RowKit
theorem mh(hl:laidOutB P=true){W W':World}{sp:Nat→Bool}(hb:Below W.heap.size W W'):∀(ts:List TypeId) (vs:List Value) (ds:List (DataW H)) (ps:List MemPlace),
  (∀t∈ts,P.readableRec t=true∧t<P.types.size)→DataW.TrodAll enc P W 0 (fun _=>true) true ts vs ds ps→(∀x∈ps,x.block<W.heap.size)→(∀x∈ps,sp x.block=true)→DataW.TrodAll enc P W' 0 sp true ts vs ds ps
 | [],vs,ds,ps,_,h,_,_=>by
  obtain⟨rfl,rfl,rfl⟩:=trodAll_nil h;exact trodAll_mk0
 |t::ts,vs,ds,ps,hr,h,hlt,hsp=>by
  obtain⟨v,vs',d,ds',p,q,rfl,rfl,rfl,h0,h1⟩:=trodAll_cons h
  have ht:=hr t (by simp)
  exact trodAll_cons_mk (WideElems.Trod_stays hl ht.1 ht.2 h0 (fun x hx=>hb.same (hlt x (by simp[hx]))) (fun x hx=>hsp x (by simp[hx])))
   (mh hl hb ts vs' ds' q (fun t' h'=>hr t' (by simp[h'])) h1 (fun x hx=>hlt x (by simp[hx])) (fun x hx=>hsp x (by simp[hx])))
theorem G6{f:Func}{s:ChangeSpec}{W W':World}{args:Array Value}{ds gs:List (DataW H)}{before:List MemPlace}{tb:TypeId}(hvars:s.vars=[])
 (hW:DataW.Whole enc P f.params.toList s.vars false W args.toList ds gs before)(hs:s.fn H (ds++gs)={results:=[.lit (.bool true)],args:=ds})(hb:Below W.heap.size W W')
 (hl:laidOutB P=true)(hr:∀t∈f.params.toList,P.readableRec t=true∧t<P.types.size)(hrt:f.resultTypes=#[tb])(SH:P.underlying tb=some .bool):
  s.post enc P f false true false false W args (.bool true) W':=by
 have UW:=hW
 have hlt:=hW.lt
 obtain⟨p,q,hA,hV,rfl,hfz,iO⟩:=hW
 rw[hvars]at hV
 obtain⟨rfl,rfl⟩:=trodVars_none hV
 refine⟨ds,_,_,[],p,[],UW,?_,?_,?_,World.keptBut_mono (fun p hp=>⟨hp,?_⟩) (hb.frame (· ∈p++[])),fun h=>by cases h⟩
 ·rw[hs,hrt];exact trodAll_cons_mk (shut_bool SH _) trodAll_mk0
 ·rw[hs]
  exact mh hl hb _ _ _ _ hr hA (fun x hx=>hlt x (by simp[hx])) (fun x hx=>by simpa using hlt x (by simp[hx]))
 ·rw[hvars,hs];rfl
 ·right;simpa using hp
end
end
end Go.Sx
namespace Go.Sx
open Go
section
variable {P:Program} {g:Gh} {H:Hp}
theorem aQ.abr{T:TypeId}{v x:Value}{rs:List (List Value)}{C:Hp}(hs:aQ T 1 v rs C){i:Nat}(hi:i<rs.length)(hr:rs[i]? =some [x])(hC:∀y∈C,y∈H){K:Value→Prop}(hk:K x):
  ai 1 v (.int .i64 (i:Int)) fun p=>Ld H p K:=by
 obtain⟨b',bF,rfl,rfl,aP⟩:=hs.pos (by omega)
 refine ai.nat hi ?_
 exact Ld.Rn (l:=rs++bF) (hC _ (List.Mem.head _)) aP (by rw[List.getElem?_append_left hi];exact hr) hk
theorem aQ.Wy{T:TypeId}{v x y:Value}{rs:List (List Value)}{C A B:Hp}(hs:aQ T 1 v rs C){i:Nat}(hi:i<rs.length)(hr:rs[i]? =some [y])(h1:x.oneCell'=true){K:Hp→Prop}
 (hk:∀C',aQ T 1 v (rs.set i [x]) C'→K (A++(C'++B))):ai 1 v (.int .i64 (i:Int)) fun p=>St 1 (A++(C++B)) p x K:=by
 obtain⟨b',bF,rfl,rfl,aP⟩:=hs.pos (by omega)
 refine ai.nat hi ?_
 refine St.cell (l:=rs++bF) (i:=i) (k:=1) (j:=0) (r:=[y]) (((dH.head _).append B).dD A) aP (by rw[List.getElem?_append_left hi];exact hr) (by omega) h1 ?_
 have e:(rs++bF).set i ([y].set 0 x)=rs.set i [x]++bF:=by rw[List.set_append_left _ _ hi];rfl
 rw[e]
 refine hk [(b',_)] (aQ.mk' (bF:=bF) (fun r hr'=>?_) (by simp) (by simp))
 rcases List.mem_append.1 hr' with hr'|hr'
 ·rcases List.mem_or_eq_of_mem_set hr' with hr'|rfl
  ·exact aP r (by simp[hr'])
  ·rfl
 ·exact aP r (by simp[hr'])
end
end Go.Sx
namespace Go.Sx
open Go
section
variable {κ β:Type} [DecidableEq κ]
structure aR(ke:κ→Value)(vr:Value→β→Prop)(es:Array MapEntry)(ck:Nat)(m:List (κ×β)):Prop where
 len:es.size=m.length
 key:∀(i:Nat) (e:MapEntry) (x:κ×β),es[i]? =some e→m[i]? =some x→e.key=ke x.1∧vr e.val x.2
 nd:(m.map Prod.fst).Nodup
 born:(es.toList.map MapEntry.born).Nodup
 lt:∀e∈es.toList,e.born<ck
variable {ke:κ→Value} {vr:Value→β→Prop} {es:Array MapEntry} {ck:Nat} {m:List (κ×β)}
theorem aR.empty:aR ke vr #[] 0 []:=⟨rfl,by simp,by simp,by simp,by simp⟩
theorem aR.mono{BZ:Value→β→Prop}(h:aR ke vr es ck m)(hv:∀v x,vr v x→BZ v x):aR ke BZ es ck m:=⟨h.len,fun i e x h1 h2=>⟨(h.key i e x h1 h2).1,hv _ _ (h.key i e x h1 h2).2⟩,h.nd,h.born,h.lt⟩
def fU(m:List (κ×β))(k:κ)(x:β):List (κ×β):=if k∈m.map Prod.fst then m.map (fun y=>if y.1=k then(k,x)else y)else m++[(k,x)]
def dK(m:List (κ×β))(k:κ):Option β:=(m.find? (fun y=>y.1=k)).map Prod.snd
theorem e9{m:List (κ×β)}{k:κ}{x:β}(nd:(m.map Prod.fst).Nodup):dK m k=some x↔(k,x)∈m:=by
 induction m with
 |nil=>simp[dK]
 |cons y r ih=>
  rw[List.map_cons,List.nodup_cons]at nd
  obtain⟨a,b⟩:=y
  simp only[dK,List.find?_cons]at ih⊢
  by_cases e:a=k
  ·subst e
   simp only[decide_true,Option.map_some,Option.some.injEq,List.mem_cons,Prod.mk.injEq,true_and]
   constructor
   ·intro h;exact .inl h.symm
   ·rintro(h|h)
    ·exact h.symm
    ·exact absurd (List.mem_map.2 ⟨_,h,rfl⟩) nd.1
  ·simp only[e,decide_false,List.mem_cons,Prod.mk.injEq,Ne.symm e,false_and,false_or]
   exact ih nd.2
theorem fA{m:List (κ×β)}{k:κ}:dK m k=none↔k∉m.map Prod.fst:=by
 simp only[dK,Option.map_eq_none_iff,List.find?_eq_none,decide_eq_true_eq,List.mem_map,not_exists,not_and]
theorem aR.findNow{kd:TypeDesc}(hk:∀a b,Instr.sameNow kd (ke a) (ke b)=some (decide (a=b)))(h:aR ke vr es ck m)(k:κ):
  (∃(i:Nat) (x:β) (e:MapEntry),es[i]? =some e∧m[i]? =some (k,x)∧vr e.val x∧Instr.findNow kd (ke k) es.toList 0=some (some (i,e.val)))∨(k∉m.map Prod.fst∧Instr.findNow kd (ke k) es.toList 0=some none):=by
 have key:∀(l:List MapEntry) (q:List (κ×β)) (j:Nat),l.length=q.length→(∀(i:Nat) (e:MapEntry) (x:κ×β),l[i]? =some e→q[i]? =some x→e.key=ke x.1∧vr e.val x.2)→
   (∃(i:Nat) (x:β) (e:MapEntry),l[i]? =some e∧q[i]? =some (k,x)∧vr e.val x∧Instr.findNow kd (ke k) l j=some (some (j+i,e.val)))∨(k∉q.map Prod.fst∧Instr.findNow kd (ke k) l j=some none):=by
  intro l
  induction l with
  |nil=>intro q j hl _;cases q with|nil=>exact .inr ⟨by simp,rfl⟩|cons a b=>simp at hl
  |cons e r ih=>
   intro q j hl hkey
   cases q with
   |nil=>simp at hl
   |cons y q=>
    obtain⟨h1,h2⟩:=hkey 0 e y rfl rfl
    simp only[Instr.findNow,h1,hk]
    by_cases e0:k=y.1
    ·subst e0
     exact .inl ⟨0,y.2,e,rfl,rfl,h2,by simp⟩
    ·rw[decide_eq_false e0]
     rcases ih q (j+1) (by simpa using hl) (fun i e x h1 h2=>hkey (i+1) e x (by simpa using h1) (by simpa using h2))with⟨i,x,e',g1,g2,g3,g4⟩|⟨g1,g2⟩
     ·exact .inl ⟨i+1,x,e',by simpa using g1,by simpa using g2,g3,by simp only[g4];rw[show j+1+i=j+(i+1)by omega]⟩
     ·exact .inr ⟨by rw[List.map_cons,List.mem_cons];rintro(h|h);exact e0 h;exact g1 h,by simpa using g2⟩
 have:=key es.toList m 0 (by simpa using h.len) (fun i e x h1 h2=>h.key i e x (by simpa using h1) h2)
 rcases this with⟨i,x,e,g1,g2,g3,g4⟩|h2
 ·exact .inl ⟨i,x,e,by simpa using g1,g2,g3,by simpa using g4⟩
 ·exact .inr h2
theorem aR.xl{P:Program}{kt:TypeId}(hk:∀a b,xS P kt (ke a) (ke b) (decide (a=b)))(h:aR ke vr es ck m)(k:κ):
  (∃(i:Nat) (x:β) (e:MapEntry),es[i]? =some e∧m[i]? =some (k,x)∧vr e.val x∧jW P kt (ke k) es.toList 0 (some (i,e.val)))∨(k∉m.map Prod.fst∧jW P kt (ke k) es.toList 0 none):=by
 have key:∀(l:List MapEntry) (q:List (κ×β)) (j:Nat),l.length=q.length→(∀(i:Nat) (e:MapEntry) (x:κ×β),l[i]? =some e→q[i]? =some x→e.key=ke x.1∧vr e.val x.2)→
   (∃(i:Nat) (x:β) (e:MapEntry),l[i]? =some e∧q[i]? =some (k,x)∧vr e.val x∧jW P kt (ke k) l j (some (j+i,e.val)))∨(k∉q.map Prod.fst∧jW P kt (ke k) l j none):=by
  intro l
  induction l with
  |nil=>intro q j hl _;cases q with|nil=>exact .inr ⟨by simp,rfl⟩|cons a b=>simp at hl
  |cons e r ih=>
   intro q j hl hkey
   cases q with
   |nil=>simp at hl
   |cons y q=>
    obtain⟨h1,h2⟩:=hkey 0 e y rfl rfl
    have hb:=hk k y.1
    rw[←h1]at hb
    by_cases e0:k=y.1
    ·refine .inl ⟨0,y.2,e,rfl,by rw[e0];rfl,h2,?_⟩
     exact⟨_,hb,fun _=>by simp,fun h=>by simp[e0]at h⟩
    ·rcases ih q (j+1) (by simpa using hl) (fun i e x h1 h2=>hkey (i+1) e x (by simpa using h1) (by simpa using h2))with⟨i,x,e',g1,g2,g3,g4⟩|⟨g1,g2⟩
     ·refine .inl ⟨i+1,x,e',by simpa using g1,by simpa using g2,g3,_,hb,fun h=>by simp[e0]at h,fun _=>?_⟩
      rw[show j+(i+1)=j+1+i by omega];exact g4
     ·exact .inr ⟨by rw[List.map_cons,List.mem_cons];rintro(h|h);exact e0 h;exact g1 h,_,hb,fun h=>by simp[e0]at h,fun _=>g2⟩
 have:=key es.toList m 0 (by simpa using h.len) (fun i e x h1 h2=>h.key i e x (by simpa using h1) h2)
 rcases this with⟨i,x,e,g1,g2,g3,g4⟩|h2
 ·exact .inl ⟨i,x,e,by simpa using g1,g2,g3,by simpa using g4⟩
 ·exact .inr h2
theorem aR.put(h:aR ke vr es ck m){i:Nat}{k:κ}{y x:β}{val:Value}(hi:m[i]? =some (k,y))(hv:vr val x):aR ke vr (es.modify i fun e=>{e with key:=ke k,val}) ck (fU m k x):=by
 have hmem:k∈m.map Prod.fst:=List.mem_map.2 ⟨_,List.mem_of_getElem? hi,rfl⟩
 have hlt:=(List.getElem?_eq_some_iff.1 hi).1
 have RN:∀j z,m[j]? =some z→z.1=k→j=i:=fun j z hj hz=>by
  have hj':=(List.getElem?_eq_some_iff.1 hj).1
  have e1:(m.map Prod.fst)[j]? =some k:=by rw[List.getElem?_map,hj];simp[hz]
  have e2:(m.map Prod.fst)[i]? =some k:=by rw[List.getElem?_map,hi];rfl
  exact(List.getElem?_inj (by simpa using hj') h.nd).1 (e1.trans e2.symm)
 have hb:((es.modify i fun e=>{e with key:=ke k,val}).toList.map MapEntry.born)=es.toList.map MapEntry.born:=by
  apply List.ext_getElem?;intro j
  simp only[List.getElem?_map,Array.getElem?_toList,Array.getElem?_modify]
  split
  ·cases es[j]? <;>rfl
  ·rfl
 refine⟨by simp[fU,hmem,h.len],fun j e z he hz=>?_,?_,by rw[hb];exact h.born,fun e he=>?_⟩
 ·simp only[fU,hmem,if_true,List.getElem?_map]at hz
  rw[Array.getElem?_modify]at he
  cases hm:m[j]? with
  |none=>rw[hm]at hz;simp at hz
  |some z0=>
   rw[hm]at hz
   simp only[Option.map_some,Option.some.injEq]at hz
   cases SB:es[j]? with
   |none=>rw[SB]at he;split at he<;>simp at he
   |some e0=>
    rw[SB]at he
    by_cases ek:z0.1=k
    ·have:=RN j z0 hm ek
     subst this
     rw[if_pos ek]at hz;subst hz
     simp only[if_true,Option.map_some,Option.some.injEq]at he
     subst he;exact⟨rfl,hv⟩
    ·rw[if_neg ek]at hz;subst hz
     rw[if_neg (fun e=>by subst e;rw[hi]at hm;cases hm;exact ek rfl)]at he
     simp only[Option.some.injEq]at he
     subst he;exact h.key j _ _ SB hm
 ·have:(fU m k x).map Prod.fst=m.map Prod.fst:=by
   simp only[fU,hmem,if_true,List.map_map]
   apply List.map_congr_left
   intro z _
   simp only[Function.comp]
   split
   ·rename_i hz;exact hz.symm
   ·rfl
  rw[this];exact h.nd
 ·have:e.born∈(es.modify i fun e=>{e with key:=ke k,val}).toList.map MapEntry.born:=List.mem_map_of_mem he
  rw[hb]at this
  obtain⟨e0,h1,h2⟩:=List.mem_map.1 this
  rw[←h2];exact h.lt e0 h1
theorem aR.more(h:aR ke vr es ck m){k:κ}{x:β}{val:Value}(hk:k∉m.map Prod.fst)(hv:vr val x):aR ke vr (es.push {key:=ke k,val,born:=ck}) (ck+1) (fU m k x):=by
 have hs:fU m k x=m++[(k,x)]:=by unfold fU;rw[if_neg hk]
 rw[hs]
 refine⟨by simp[h.len],fun j e z he hz=>?_,?_,?_,fun e he=>?_⟩
 ·by_cases hj:j<m.length
  ·rw[List.getElem?_append_left hj]at hz
   rw[Array.getElem?_push,if_neg (by rw[h.len];omega)]at he
   exact h.key j _ _ he hz
  ·have UO:=(List.getElem?_eq_some_iff.1 hz).1
   simp only[List.length_append,List.length_cons,List.length_nil]at UO
   have:j=m.length:=by omega
   subst this
   rw[List.getElem?_append_right (Nat.le_refl _)]at hz
   simp at hz;subst hz
   rw[Array.getElem?_push,if_pos h.len.symm]at he
   simp at he;subst he
   exact⟨rfl,hv⟩
 ·rw[List.map_append,List.nodup_append]
  refine⟨h.nd,by simp,fun a ha b hb=>?_⟩
  simp at hb;subst hb;rintro rfl;exact hk ha
 ·rw[Array.toList_push,List.map_append,List.nodup_append]
  refine⟨h.born,by simp,fun a ha b hb=>?_⟩
  simp at hb;subst hb
  obtain⟨e,he,rfl⟩:=List.mem_map.1 ha
  have:=h.lt e he;omega
 ·rw[Array.toList_push,List.mem_append]at he
  rcases he with he|he
  ·have:=h.lt e he;omega
  ·simp at he;subst he;simp
variable {H:Hp} {b:Nat}
theorem aR.hit{kd:TypeDesc}{zero:Value}{ok:Bool}{k:κ}{x:β}{K:Value→Prop}(hk:∀a b,Instr.sameNow kd (ke a) (ke b)=some (decide (a=b)))(h:aR ke vr es ck m)(hm:(b,Obj.map es ck)∈H)(hx:dK m k=some x)
 (h1:∀v,vr v x→K (cond ok (.tuple #[v,.bool true]) v)):rI kd zero ok H (.map (some b)) (ke k) K:=by
 rcases h.findNow hk k with⟨i,y,e,g1,g2,g3,g4⟩|⟨g1,g2⟩
 ·have:dK m k=some y:=(e9 h.nd).2 (List.mem_of_getElem? g2)
  rw[hx]at this;cases this
  exact⟨es,_,.inr ⟨b,ck,rfl,hm⟩,g4,h1 _ g3⟩
 ·rw[fA.2 g1]at hx;cases hx
theorem aR.Ob{kd:TypeDesc}{zero:Value}{ok:Bool}{k:κ}{K:Value→Prop}(hk:∀a b,Instr.sameNow kd (ke a) (ke b)=some (decide (a=b)))(h:aR ke vr es ck m)(hm:(b,Obj.map es ck)∈H)(hx:dK m k=none)
 (h1:K (cond ok (.tuple #[zero,.bool false]) zero)):rI kd zero ok H (.map (some b)) (ke k) K:=by
 rcases h.findNow hk k with⟨i,y,e,g1,g2,g3,g4⟩|⟨g1,g2⟩
 ·exact absurd (List.mem_map.2 ⟨_,List.mem_of_getElem? g2,rfl⟩) (fA.1 hx)
 ·exact⟨es,_,.inr ⟨b,ck,rfl,hm⟩,g2,h1⟩
theorem aR.bT{kd:TypeDesc}{k:κ}{x:β}{val:Value}{K:Hp→Prop}(hk:∀a b,Instr.sameNow kd (ke a) (ke b)=some (decide (a=b)))(hb:∀a,Instr.sameBits 10000 (ke a) (ke a)=true)(h:aR ke vr es ck m)(hv:vr val x)
 (h1:∀es' cu,aR ke vr es' cu (fU m k x)→∃H',dH b (.map es ck) (.map es' cu) H H'∧K H'):iK kd H (.map (some b)) (ke k) val K:=by
 rcases h.findNow hk k with⟨i,y,e,g1,g2,g3,g4⟩|⟨g1,g2⟩
 ·refine⟨b,es,ck,_,rfl,g4,fun e' he'=>?_,by rw[h.len];exact(List.getElem?_eq_some_iff.1 g2).1,h1 _ _ (h.put g2 hv)⟩
  rw[(h.key i e' _ he' g2).1];exact hb k
 ·exact⟨b,es,ck,_,rfl,g2,h1 _ _ (h.more g1 hv)⟩
theorem aR.Er{P:Program}{kt:TypeId}{zero:Value}{ok:Bool}{k:κ}{x:β}{K:Value→Prop}(hk:∀a b,xS P kt (ke a) (ke b) (decide (a=b)))(hc:∀a,j7 P kt (ke a))(h:aR ke vr es ck m)(hm:(b,Obj.map es ck)∈H)(hx:dK m k=some x)
 (h1:∀v,vr v x→K (cond ok (.tuple #[v,.bool true]) v)):iA P kt zero ok H (.map (some b)) (ke k) K:=by
 rcases h.xl hk k with⟨i,y,e,g1,g2,g3,g4⟩|⟨g1,g2⟩
 ·have:dK m k=some y:=(e9 h.nd).2 (List.mem_of_getElem? g2)
  rw[hx]at this;cases this
  exact⟨es,_,.inr ⟨b,ck,rfl,hm⟩,hc k,g4,h1 _ g3⟩
 ·rw[fA.2 g1]at hx;cases hx
theorem aR.tf{P:Program}{kt:TypeId}{zero:Value}{ok:Bool}{k:κ}{K:Value→Prop}(hk:∀a b,xS P kt (ke a) (ke b) (decide (a=b)))(hc:∀a,j7 P kt (ke a))(h:aR ke vr es ck m)(hm:(b,Obj.map es ck)∈H)(hx:dK m k=none)
 (h1:K (cond ok (.tuple #[zero,.bool false]) zero)):iA P kt zero ok H (.map (some b)) (ke k) K:=by
 rcases h.xl hk k with⟨i,y,e,g1,g2,g3,g4⟩|⟨g1,g2⟩
 ·exact absurd (List.mem_map.2 ⟨_,List.mem_of_getElem? g2,rfl⟩) (fA.1 hx)
 ·exact⟨es,_,.inr ⟨b,ck,rfl,hm⟩,hc k,g2,h1⟩
theorem aR.Ke{P:Program}{kt:TypeId}{k:κ}{x:β}{val:Value}{K:Hp→Prop}(hk:∀a b,xS P kt (ke a) (ke b) (decide (a=b)))(hc:∀a,j7 P kt (ke a))(hb:∀a,Instr.sameBits 10000 (ke a) (ke a)=true)(h:aR ke vr es ck m)(hv:vr val x)
 (h1:∀es' cu,aR ke vr es' cu (fU m k x)→∃H',dH b (.map es ck) (.map es' cu) H H'∧K H'):iz P kt H (.map (some b)) (ke k) val K:=by
 rcases h.xl hk k with⟨i,y,e,g1,g2,g3,g4⟩|⟨g1,g2⟩
 ·refine⟨b,es,ck,_,rfl,hc k,g4,fun e' he'=>?_,by rw[h.len];exact(List.getElem?_eq_some_iff.1 g2).1,h1 _ _ (h.put g2 hv)⟩
  rw[(h.key i e' _ he' g2).1];exact hb k
 ·exact⟨b,es,ck,_,rfl,hc k,g2,h1 _ _ (h.more g1 hv)⟩
theorem aR.Of(h:aR ke vr es ck m)(hm:(b,Obj.map es ck)∈H){K:Value→Prop}(hk:K (.int .i64 m.length)):xM H (.map (some b)) K:=⟨_,rfl,.inr ⟨b,es,ck,rfl,hm,by rw[h.len];exact hk⟩⟩
def cq(es:Array MapEntry)(m:List (κ×β))(seen:Array Nat):List (κ×β):=((es.toList.zip m).filter fun p=> !seen.contains p.1.born).map Prod.snd
omit [DecidableEq κ] in
theorem mG(h:aR ke vr es ck m):cq es m #[]=m:=by
 unfold cq
 rw[List.filter_eq_self.2 (by simp),←List.unzip_snd,List.unzip_zip]
 simpa using h.len
omit [DecidableEq κ] in
theorem vV(h:aR ke vr es ck m){seen:Array Nat}{i:Nat}{e:MapEntry}{x:κ×β}(he:es[i]? =some e)(hx:m[i]? =some x)(hs:e.born∉seen):(cq es m seen).Perm (x::cq es m (seen.push e.born)):=by
 unfold cq
 have hz:(es.toList.zip m)[i]? =some (e,x):=by rw[List.getElem?_zip_eq_some];exact⟨by simpa using he,hx⟩
 obtain⟨A,C,hAC,hlen⟩:∃A C,es.toList.zip m=A++(e,x)::C∧A.length=i:=by
  obtain⟨hlt,hg⟩:=List.getElem?_eq_some_iff.1 hz
  exact⟨(es.toList.zip m).take i,(es.toList.zip m).drop (i+1),by rw[←hg,List.getElem_cons_drop,List.take_append_drop],by simp only[List.length_take];omega⟩
 have XI:(es.toList.zip m).map (fun p=>p.1.born)=es.toList.map MapEntry.born:=by
  have:(es.toList.zip m).map Prod.fst=es.toList:=by rw[←List.unzip_fst,List.unzip_zip];simpa using h.len
  rw[show(fun p:MapEntry×(κ×β)=>p.1.born)=MapEntry.born∘Prod.fst from rfl,←List.map_map,this]
 have iO:=h.born
 rw[←XI,hAC,List.map_append,List.map_cons]at iO
 have Se:=List.perm_middle.nodup_iff.1 iO
 rw[List.nodup_cons,←List.map_append]at Se
 have hne:∀p∈A++C,p.1.born≠e.born:=fun p hp e0=>Se.1 (List.mem_map.2 ⟨p,hp,e0⟩)
 have ML:∀L:List (MapEntry×(κ×β)),(∀p∈L,p.1.born≠e.born)→(L.filter fun p=> !(seen.push e.born).contains p.1.born)=L.filter fun p=> !seen.contains p.1.born:=fun L hL=>by
  apply List.filter_congr
  intro p hp
  have:=hL p hp
  simp[Array.mem_push,this]
 rw[hAC,List.filter_append,List.filter_append,List.filter_cons,List.filter_cons]
 rw[if_pos (by simpa using hs),if_neg (by simp),ML A fun p hp=>hne p (List.mem_append_left _ hp),ML C fun p hp=>hne p (List.mem_append_right _ hp)]
 rw[List.map_append,List.map_append,List.map_cons]
 exact List.perm_middle
omit [DecidableEq κ] in
theorem aR.next{bi bm:Nat}{seen:Array Nat}{K:Value→Hp→Prop}(h:aR ke vr es ck m)(hm:(bm,Obj.map es ck)∈H)(hi:(bi,Obj.mapIter (some bm) ck seen ck)∈H)
 (h1:∀e x seen',e∈es.toList→e.key=ke x.1→vr e.val x.2→(cq es m seen).Perm (x::cq es m seen')→seen'.back?=some e.born→es.find? (·.born==e.born)=some e→
   ∃H',dH bi (.mapIter (some bm) ck seen ck) (.mapIter (some bm) ck seen' ck) H H'∧K (.tuple #[.bool true,e.key,e.val]) H')
 (h2:cq es m seen=[]→K (.tuple #[.bool false]) H):PV H (.pointer (some ⟨bi,0,none⟩)) K:=by
 refine⟨bi,some bm,ck,seen,ck,rfl,hi,es,ck,hm,fun e he=>⟨h.lt e he,h.lt e he⟩,fun e he hs=>?_,fun aP=>h2 ?_⟩
 ·obtain⟨i,hi',rfl⟩:=List.mem_iff_getElem.1 he
  have CJ:i<m.length:=by rw[←h.len];simpa using hi'
  have g1:es[i]? =some es.toList[i]:=by rw[←Array.getElem?_toList];exact List.getElem?_eq_getElem hi'
  have g2:m[i]? =some m[i]:=List.getElem?_eq_getElem CJ
  obtain⟨k1,k2⟩:=h.key i _ _ g1 g2
  refine h1 _ m[i] _ he k1 k2 (vV h g1 g2 hs) (by simp) ?_
  rw[←Array.find?_toList]
  have iO:=h.born
  rw[List.find?_eq_some_iff_append]
  refine⟨by simp,es.toList.take i,es.toList.drop (i+1),by rw[List.getElem_cons_drop,List.take_append_drop],fun a ha=>?_⟩
  simp only[Bool.not_eq_true',beq_eq_false_iff_ne,ne_eq]
  intro e0
  obtain⟨j,hj,rfl⟩:=List.mem_iff_getElem.1 ha
  simp only[List.length_take]at hj
  rw[List.getElem_take]at e0
  have:=(List.getElem_inj (by simpa using h.born) (xs:=es.toList.map MapEntry.born) (i:=j) (j:=i) (h₀:=by rw[List.length_map];omega) (h₁:=by rw[List.length_map];exact hi')).1 (by simpa using e0)
  omega
 ·unfold cq
  rw[List.filter_eq_nil_iff.2,List.map_nil]
  intro p hp
  have:=aP p.1 (List.of_mem_zip hp).1
  simpa using this
end
end Go.Sx
namespace aD
def iJ(w:Nat):List UInt8:=(List.range 8).map fun i=>UInt8.ofNat (w>>>(8*i))
def fk(ws:List Nat):List UInt8:=ws.flatMap iJ
theorem eu(w:Nat):(iJ w).length=8:=by simp[iJ]
theorem o9:∀l:List Nat,(fk l).length=8*l.length
 | []=>rfl
 |x::l=>by rw[fk,List.flatMap_cons,List.length_append,eu];have:=o9 l;unfold fk at this;rw[this,List.length_cons];omega
theorem zl{a b:Nat}(ha:a<18446744073709551616)(hb:b<18446744073709551616)(h:iJ a=iJ b):a=b:=by
 apply Nat.eq_of_testBit_eq
 intro j
 by_cases hj:j<64
 ·have hi:j/8<8:=by omega
  have h1:=congrArg (fun l=>l[j/8]?) h
  simp only[iJ,List.getElem?_map,List.getElem?_range hi,Option.map_some,Option.some.injEq]at h1
  have h2:=congrArg UInt8.toNat h1
  simp only[UInt8.toNat_ofNat']at h2
  have h3:=congrArg (fun x=>x.testBit (j%8)) h2
  simp only[Nat.testBit_mod_two_pow,Nat.testBit_shiftRight]at h3
  rw[show 8*(j/8)+j%8=j by omega]at h3
  have:decide (j%8<8)=true:=by simp;omega
  simpa[this]using h3
 ·rw[Nat.testBit_lt_two_pow (Nat.lt_of_lt_of_le ha (Nat.pow_le_pow_right (n:=2) (by decide) (by omega:64≤j))),Nat.testBit_lt_two_pow (Nat.lt_of_lt_of_le hb (Nat.pow_le_pow_right (n:=2) (by decide) (by omega:64≤j)))]
theorem wH:∀{a b:List Nat},(∀w∈a,w<18446744073709551616)→(∀w∈b,w<18446744073709551616)→fk a=fk b→a=b
 | [],[],_,_,_=>rfl
 | [],y::b,_,_,h=>by have:=congrArg List.length h;simp[fk,eu]at this;omega
 |x::a,[],_,_,h=>by have:=congrArg List.length h;simp[fk,eu]at this
 |x::a,y::b,ha,hb,h=>by
  simp only[fk,List.flatMap_cons]at h
  obtain⟨h1,h2⟩:=List.append_inj h (by rw[eu,eu])
  rw[zl (ha x (by simp)) (hb y (by simp)) h1,wH (fun w hw=>ha w (by simp[hw])) (fun w hw=>hb w (by simp[hw])) h2]
theorem eE.key_inj{n:Nat}{a b:List Nat}(ha:eE n a)(hb:eE n b)(h:fk a=fk b):a=b:=wH (fun w hw=>ha.lt hw) (fun w hw=>hb.lt hw) h
abbrev Fs:=List (List Nat)
def add(l:Fs)(t:List Nat):Fs:=if t∈l then l else l++[t]
def kr(L:Fs):Fs:=L.foldl add []
def given(n:Nat)(l:Fs)(v:Nat):Fs:=l.foldl (fun acc t=>add (add acc (jl n t v false)) (jl n t v true)) []
def nodes(n:Nat)(l:Fs)(v:Nat):Fs:=l.filter fun t=>dep n t v
def st(n:Nat)(L:Fs)(A:Nat):Nat→Fs
 |0=>kr L
 |k+1=>if A.testBit k then given n (st n L A k) k else st n L A k
def lvl(n:Nat)(L:Fs)(A v:Nat):Nat:=(nodes n (st n L A n) v).length
theorem uI{l:Fs}{t x:List Nat}:x∈add l t↔x∈l∨x=t:=by
 unfold add
 split
 ·constructor
  ·exact .inl
  ·rintro(h|rfl)<;>assumption
 ·simp
theorem oT{l:Fs}{t:List Nat}(h:l.Nodup):(add l t).Nodup:=by
 unfold add
 split
 ·exact h
 ·rename_i hn
  rw[List.nodup_append]
  exact⟨h,by simp,fun a ha b hb=>by simp at hb;subst hb;rintro rfl;exact hn ha⟩
theorem iI{α:Type}(f:α→Fs→Fs)(g:α→List Nat→Prop)(hf:∀a l x,x∈f a l↔x∈l∨g a x):∀(L:List α) (acc:Fs) (x:List Nat),x∈L.foldl (fun acc a=>f a acc) acc↔x∈acc∨∃a∈L,g a x
 | [],acc,x=>by simp
 |a::L,acc,x=>by
  rw[List.foldl_cons,iI f g hf L,hf]
  simp only[List.mem_cons,exists_eq_or_imp,or_assoc]
theorem fW{α:Type}(f:α→Fs→Fs)(hf:∀a l,l.Nodup→(f a l).Nodup):∀(L:List α) (acc:Fs),acc.Nodup→(L.foldl (fun acc a=>f a acc) acc).Nodup
 | [],acc,h=>h
 |a::L,acc,h=>fW f hf L _ (hf a acc h)
theorem dc{L:Fs}{x:List Nat}:x∈kr L↔x∈L:=by
 unfold kr
 have:=iI (fun a l=>add l a) (fun a x=>x=a) (fun a l x=>uI) L [] x
 rw[this];simp
theorem jz(L:Fs):(kr L).Nodup:=fW (fun a l=>add l a) (fun a l h=>oT h) L [] (by simp)
theorem lJ{n v:Nat}{l:Fs}{x:List Nat}:x∈given n l v↔∃t∈l,∃b,x=jl n t v b:=by
 unfold given
 have:=iI (fun t acc=>add (add acc (jl n t v false)) (jl n t v true)) (fun t x=>∃b,x=jl n t v b) (fun t l x=>by
  rw[uI,uI]
  constructor
  ·rintro((h|h)|h)
   ·exact .inl h
   ·exact .inr ⟨false,h⟩
   ·exact .inr ⟨true,h⟩
  ·rintro(h|⟨b,h⟩)
   ·exact .inl (.inl h)
   ·cases b
    ·exact .inl (.inr h)
    ·exact .inr h) l [] x
 rw[this];simp
theorem xh(n:Nat)(l:Fs)(v:Nat):(given n l v).Nodup:=fW (fun t acc=>add (add acc (jl n t v false)) (jl n t v true)) (fun a l h=>oT (oT h)) l [] (by simp)
theorem nx{a b:Fs}(ha:a.Nodup)(hb:b.Nodup)(h:∀x,x∈a↔x∈b):a.Perm b:=(List.perm_ext_iff_of_nodup ha hb).2 h
theorem qz{n v:Nat}{a b:Fs}(h:a.Perm b):(nodes n a v).length=(nodes n b v).length:=(h.filter _).length_eq
theorem mW(l:Fs)(t:List Nat):(add l t).length≤l.length+1:=by unfold add;split<;>simp
theorem fD{α:Type}(f:α→Fs→Fs)(c:Nat)(hf:∀a l,(f a l).length≤l.length+c):∀(L:List α) (acc:Fs),(L.foldl (fun acc a=>f a acc) acc).length≤acc.length+c*L.length
 | [],acc=>by simp
 |a::L,acc=>by
  have h1:=fD f c hf L (f a acc)
  have h2:=hf a acc
  rw[List.foldl_cons,List.length_cons,Nat.mul_succ];omega
end aD
namespace Go.Sx
open Go
section
variable {P:Program} {H:Hp}
theorem au.int{t e:Nat}{kd:IntKind}{x:Int}{K:Value→Hp→Prop}(h1:P.underlying t=some (.slice e))(h2:cN P e=some 1)(h3:dX P e=some (.int kd 0))
 (h:∀b,K (.slice (some ⟨b,0,none⟩) 1 1) ((b,.cells (ax kd [x]) e (0,0))::H)):au P t 1 [(0,.int kd x)] H K:=by
 refine⟨ax kd [x],e,1,_,h1,h2,h3,by decide,?_,fun b _=>h b⟩
 have e1:Array.range 1=#[0]:=rfl
 simp[Instr.fill,Value.cells,ax,e1]
theorem au.none{t e k:Nat}{z:Value}{K:Value→Hp→Prop}(h1:P.underlying t=some (.slice e))(h2:cN P e=some k)(h3:dX P e=some z)
 (h:∀b,K (.slice (some ⟨b,0,none⟩) 0 0) ((b,.cells #[] e (0,0))::H)):au P t 0 [] H K:=by
 refine⟨_,e,k,z,h1,h2,h3,by simp,rfl,fun b _=>?_⟩
 have:((Array.range (0*k)).map fun i=>z.cells[i%z.cells.size]!)=#[]:=by simp
 rw[this];exact h b
def oP(l:List UInt8):List (List Value):=l.map fun b=>[Value.int .u8 b.toNat]
theorem DW(l:List UInt8):rows (oP l)=(l.map fun b=>Value.int .u8 b.toNat).toArray:=by
 unfold rows oP
 congr 1
 induction l with
 |nil=>rfl
 |cons b r ih=>simp[ih]
theorem iM.own{T:TypeId}{v:Value}{l:List UInt8}{C:Hp}(h:aQ T 1 v (oP l) C)(hs:∀x∈C,x∈H){K:Value→Prop}(hk:K (.string ⟨l.toArray⟩)):iM H v K:=by
 obtain⟨a,cap,h1,h2⟩:=((Sl.kF h (by decide)).mono hs).cells
 refine⟨a,_,cap,l,h1,?_,by simp[oP],hk⟩
 rw[DW,Nat.mul_one]at h2;exact h2
def uy(l:List UInt8):Value:=.string ⟨l.toArray⟩
theorem qu(a b:List UInt8):((⟨a.toArray⟩:ByteArray)==⟨b.toArray⟩)=decide (a=b):=by
 rw[beq_toListBytes,ByteArray.toList_eq,ByteArray.toList_eq]
 simp only[List.toList_toArray]
 rw[Bool.eq_iff_iff];simp
theorem GG(a b:List UInt8):Instr.sameNow .string (uy a) (uy b)=some (decide (a=b)):=by
 show some _=some _
 rw[qu]
theorem DO(a:List UInt8):Instr.sameBits 10000 (uy a) (uy a)=true:=by
 show((⟨a.toArray⟩:ByteArray)==⟨a.toArray⟩)=true
 rw[qu];simp
theorem ae.Ri{a b:List UInt8}{k:Value→Prop}(h:k (.bool (decide (a≠b)))):ae .str .neq (uy a) (uy b) k:=by
 refine⟨_,rfl,?_⟩
 have:(!((⟨a.toArray⟩:ByteArray).toList==(⟨b.toArray⟩:ByteArray).toList))=decide (a≠b):=by
  rw[←beq_toListBytes,qu];simp
 rw[this];exact h
def eV(n:Nat)(B:Hp)(es:Array MapEntry)(ck:Nat)(m:List (List UInt8×List Nat)):Prop:=
 aR uy (fun v ws=>zD B v ⟨n,ws⟩) es ck m∧∀x∈m,x.1=aD.fk x.2∧aD.eE n x.2
theorem eV.mono{n:Nat}{B B':Hp}{es:Array MapEntry}{ck:Nat}{m:List (List UInt8×List Nat)}(h:eV n B es ck m)(hs:∀x∈B,x∈B'):eV n B' es ck m:=⟨h.1.mono fun _ _ h=>h.mono hs,h.2⟩
theorem eV.empty(n:Nat)(B:Hp):eV n B #[] 0 []:=⟨aR.empty,by simp⟩
def uv(m:List (List UInt8×List Nat))(ws:List Nat):List (List UInt8×List Nat):=fU m (aD.fk ws) ws
theorem eV.nodup{n:Nat}{B:Hp}{es:Array MapEntry}{ck:Nat}{m:List (List UInt8×List Nat)}(h:eV n B es ck m):(m.map Prod.snd).Nodup:=by
 have h1:=h.1.nd
 have e:m.map Prod.fst=(m.map Prod.snd).map aD.fk:=by
  rw[List.map_map];apply List.map_congr_left;intro x hx;exact(h.2 x hx).1
 rw[e]at h1
 exact List.Pairwise.of_map aD.fk (fun a b hne e=>hne (by rw[e])) h1
theorem oo{n:Nat}{m:List (List UInt8×List Nat)}{ws:List Nat}(hm:∀x∈m,x.1=aD.fk x.2∧aD.eE n x.2)(hf:aD.eE n ws):∀x,x∈(uv m ws).map Prod.snd↔x∈m.map Prod.snd∨x=ws:=by
 intro x
 unfold uv fU
 split
 ·rename_i hk
  obtain⟨y,hy,hky⟩:=List.mem_map.1 hk
  have hyw:y.2=ws:=(hm y hy).2.key_inj hf (by rw[←(hm y hy).1,hky])
  have:(m.map fun y=>if y.1=aD.fk ws then(aD.fk ws,ws)else y)=m:=by
   conv=>rhs;rw[←List.map_id m]
   apply List.map_congr_left
   intro z hz
   split
   ·rename_i hzk
    have:z.2=ws:=(hm z hz).2.key_inj hf (by rw[←(hm z hz).1,hzk])
    simp only[id];rw[←hzk,←this]
   ·rfl
  rw[this]
  constructor
  ·exact .inl
  ·rintro(h|rfl)
   ·exact h
   ·exact List.mem_map.2 ⟨y,hy,hyw⟩
 ·simp
theorem Kj{n:Nat}{m:List (List UInt8×List Nat)}{ws:List Nat}(hm:∀x∈m,x.1=aD.fk x.2∧aD.eE n x.2)(hf:aD.eE n ws):∀x∈uv m ws,x.1=aD.fk x.2∧aD.eE n x.2:=by
 intro x hx
 unfold uv fU at hx
 split at hx
 ·obtain⟨y,hy,rfl⟩:=List.mem_map.1 hx
  split
  ·exact⟨rfl,hf⟩
  ·exact hm y hy
 ·rcases List.mem_append.1 hx with hx|hx
  ·exact hm x hx
  ·simp at hx;subst hx;exact⟨rfl,hf⟩
theorem eV.bT{n:Nat}{B:Hp}{es:Array MapEntry}{ck b:Nat}{m:List (List UInt8×List Nat)}{ws:List Nat}{val:Value}{K:Hp→Prop}(h:eV n B es ck m)(hv:zD B val ⟨n,ws⟩)(hf:aD.eE n ws)
 (h1:∀es' cu,eV n B es' cu (uv m ws)→∃H',dH b (.map es ck) (.map es' cu) H H'∧K H'):iK .string H (.map (some b)) (uy (aD.fk ws)) val K:=
 aR.bT GG DO h.1 hv fun es' cu he=>h1 es' cu ⟨he,Kj h.2 hf⟩
end
end Go.Sx
namespace Go.Sx
open Go
section
variable {P:Program} {g:Gh} {H:Hp}
theorem aQ.apps{elem k bytes:Nat}{zero:Value}{v:Value}{rs:List (List Value)}{C A B:Hp}(h:aQ elem k v rs C){xa:Option Addr}{xc:Nat}{r2:List (List Value)}
 (hx:Cells (A++(C++B)) xa (r2.length*k) (rows r2))(hr:∀r∈r2,r.length=k)(h1:∀r∈r2,∀u∈r,u.oneCell'=true)(hz:∃z:List Value,zero.cells=z.toArray∧z.length=k)
 (hb:(rs.length+r2.length)*bytes≤140737488355328)(bX:rs.length+r2.length≤9223372036854775807){K:Value→Hp→Prop}
 (hk:∀v' C',aQ elem k v' (rs++r2) C'→K v' (A++(C'++B))):App P elem k bytes zero (A++(C++B)) v (.slice xa r2.length xc) K:=by
 obtain⟨z,KV,Cv⟩:=hz
 have hnone:∀u∈(rows r2).toList,u.oneCell'=true:=by
  intro u hu
  simp only[rows,List.mem_flatten]at hu
  obtain⟨r,h2,h3⟩:=hu
  exact h1 r h2 u h3
 rcases h with⟨rfl,rfl,rfl⟩|⟨b,bF,rfl,rfl,aP⟩
 ·refine⟨none,0,0,xa,r2.length,xc,#[],rows r2,rfl,rfl,rfl,hx,bu hr,by simp,hnone,fun h=>?_,fun _=>⟨by simpa using hb,by simpa using bX,fun eL hn b XV=>?_⟩⟩
  ·have:r2=[]:=List.eq_nil_of_length_eq_zero (by omega)
   subst this
   exact hk _ [] (.inl ⟨rfl,rfl,rfl⟩)
  ·rw[show(#[]:Array Value)++rows r2++Builtin.zeroCells zero.cells (eL-(0+r2.length))=rows ([]++r2++List.replicate (eL-r2.length) z)by rw[KV,nj z Cv];simp only[Nat.zero_add,Array.empty_append,List.nil_append];rw[c8]]
   refine⟨_,aU.Mg [(b,_)] A B,hk _ [(b,_)] (.inr ⟨b,List.replicate (eL-r2.length) z,?_,rfl,?_⟩)⟩
   ·simp;omega
   ·intro x hx
    rcases List.mem_append.1 hx with hx|hx
    ·exact hr x hx
    ·rw[List.eq_of_mem_replicate hx,Cv]
 ·have hsz:=bu aP
  have mu:∀x∈rs,x.length=k:=fun x hx=>aP x (by simp[hx])
  have hold:rows rs=(rows (rs++bF)).extract 0 (0+rs.length*k):=by
   rw[←c8]
   apply Array.ext'
   have:=bu mu
   have h2:(rows rs).toList.length=rs.length*k:=by rw[Array.length_toList];exact this
   rw[Array.toList_extract,Array.toList_append,List.extract_eq_take_drop,List.drop_zero,Nat.zero_add,Nat.sub_zero,←h2,List.take_left]
  refine⟨some ⟨b,0,none⟩,rs.length,rs.length+bF.length,xa,r2.length,xc,rows rs,rows r2,rfl,rfl,.inr ⟨rfl,_,elem,(0,0),by simp,?_,hold⟩,hx,bu hr,bu mu,hnone,fun hfit=>?_,fun hgrow=>⟨hb,by omega,fun eL hn b' XV=>?_⟩⟩
  ·rw[hsz];simp only[List.length_append,Nat.zero_add];exact Nat.mul_le_mul_right _ (by omega)
  ·obtain⟨j1,j2,rfl,hj⟩:∃j1 j2,bF=j1++j2∧j1.length=r2.length:=⟨bF.take r2.length,bF.drop r2.length,(List.take_append_drop _ _).symm,by rw[List.length_take];omega⟩
   have SM:∀x∈j1,x.length=k:=fun x hx=>aP x (by simp[hx])
   refine⟨_,elem,_,rfl,?_,((dH.head _).append B).dD A,hk _ [(b,_)] (.inr ⟨b,j2,?_,?_,?_⟩)⟩
   ·rw[hsz,List.length_append,List.length_append,hj,Nat.add_mul,Nat.add_mul]
    show 0+rs.length*k+r2.length*k≤_
    omega
   ·simp;omega
   ·have e:(⟨b,0,none⟩:Addr).off+rs.length*k=rs.length*k:=by simp
    have l1:=cC rs mu
    have l2:=cC j1 SM
    have l3:=cC r2 hr
    have e2:gN (rows (rs++(j1++j2))) (rs.length*k) (rows r2).toList=rows (rs++r2++j2):=by
     unfold rows
     rw[List.flatten_append,List.flatten_append,List.toList_toArray,nA _ _ _ (by rw[List.length_append,List.length_append,l1,l2,l3,hj];omega)]
     congr 1
     rw[List.flatten_append,List.flatten_append,←l1,List.take_left,l3,←hj,←l2,List.drop_append,←List.append_assoc]
     simp[List.drop_append]
    rw[e,e2]
   ·intro x hx
    simp only[List.append_assoc,List.mem_append]at hx
    rcases hx with hx|hx|hx
    ·exact mu x hx
    ·exact hr x hx
    ·exact aP x (by simp[hx])
  ·refine⟨A++([(b',_)]++B),?_,hk _ [(b',_)] (.inr ⟨b',List.replicate (eL-(rs.length+r2.length)) z,?_,rfl,?_⟩)⟩
   ·rw[KV,nj z Cv,c8,c8]
    exact fun g w h=>(aU.Rl [[_],A,[_],B] [[_],A,[_],B] ((List.perm_append_comm (l₁:=[_,A]) (l₂:=[_])).append_right [B]|>.trans (.cons _ (.swap _ _ _))) g w h).tail
   ·simp;omega
   ·intro x hx
    rcases List.mem_append.1 hx with hx|hx
    ·rcases List.mem_append.1 hx with hx|hx
     ·exact mu x hx
     ·exact hr x hx
    ·rw[List.eq_of_mem_replicate hx,Cv]
def aN(T:TypeId)(kd:IntKind)(v:Value)(l:List Int)(C:Hp):Prop:=aQ T 1 v (l.map fun n=>[Value.int kd n]) C
theorem aN.nil{T:TypeId}{kd:IntKind}:aN T kd (.slice none 0 0) [] []:=aQ.nil _ _
theorem aN.bS{T:TypeId}{kd:IntKind}{v:Value}{l:List Int}{C:Hp}(h:aN T kd v l C){K:Value→Prop}(hk:K (.int .i64 l.length)):bA v K:=aQ.bS h (by simpa using hk)
theorem aN.ints{T:TypeId}{kd:IntKind}{v:Value}{l:List Int}{C:Hp}(h:aN T kd v l C):c6 kd C v l:=Sl.kF h (by decide)
theorem aN.app{T:TypeId}{kd:IntKind}{v:Value}{l:List Int}{C A B:Hp}{bytes:Nat}(h:aN T kd v l C){xb xc:Nat}{x:Int}{xT:TypeId}{fz:Nat×Nat}(hx:(xb,Obj.cells (ax kd [x]) xT fz)∈A++(C++B))
 (hb:(l.length+1)*bytes≤140737488355328)(hm:l.length+1≤9223372036854775807){K:Value→Hp→Prop}(hk:∀v' C',aN T kd v' (l++[x]) C'→K v' (A++(C'++B))):App P T 1 bytes (.int kd 0) (A++(C++B)) v (.slice (some ⟨xb,0,none⟩) 1 xc) K:=
 aQ.IT (r:=[.int kd x]) h hx rfl (by simp[Value.oneCell']) ⟨[.int kd 0],rfl,rfl⟩ (by simpa using hb) (by simpa using hm) fun v' C' ho=>hk v' C' (by unfold aN;simpa using ho)
theorem aN.apps{T:TypeId}{kd:IntKind}{v x:Value}{l l2:List Int}{C A B:Hp}{bytes:Nat}(h:aN T kd v l C)(hx:c6 kd (A++(C++B)) x l2)
 (hb:(l.length+l2.length)*bytes≤140737488355328)(hm:l.length+l2.length≤9223372036854775807){K:Value→Hp→Prop}(hk:∀v' C',aN T kd v' (l++l2) C'→K v' (A++(C'++B))):App P T 1 bytes (.int kd 0) (A++(C++B)) v x K:=by
 obtain⟨a,cap,rfl,hc⟩:=Sl.cells hx
 exact aQ.apps h hc (by simp) (by simp[Value.oneCell']) ⟨[.int kd 0],rfl,rfl⟩ (by simpa using hb) (by simpa using hm) fun v' C' ho=>hk v' C' (by unfold aN;rw[List.map_append];exact ho)
theorem au.RH{t e:Nat}{kd:IntKind}{x y z:Int}{K:Value→Hp→Prop}(h1:P.underlying t=some (.slice e))(h2:cN P e=some 1)(h3:dX P e=some (.int kd 0))
 (h:∀b,K (.slice (some ⟨b,0,Option.none⟩) 3 3) ((b,.cells (ax kd [x,y,z]) e (0,0))::H)):au P t 3 [(0,.int kd x),(1,.int kd y),(2,.int kd z)] H K:=by
 refine⟨ax kd [x,y,z],e,1,_,h1,h2,h3,by decide,?_,fun b _=>h b⟩
 have e1:Array.range (3*1)=#[0,1,2]:=rfl
 simp[Instr.fill,Value.cells,ax,e1]
end
end Go.Sx
