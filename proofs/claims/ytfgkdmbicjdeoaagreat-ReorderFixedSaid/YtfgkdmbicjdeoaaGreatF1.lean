import Derived.WalkKit
import Derived.Still
import Derived.KernelRfl
import Derived.Deep.Quiet
import Derived.OrdersHeld
import Derived.ProofKit
import Derived.OpenShut
import Derived.Below
set_option linter.unusedVariables false
set_option linter.unusedSimpArgs false
set_option linter.unusedSectionVars false
theorem zM{α:Type _}{x:α}{l:List α}(h:x∈l:=by repeat (first|assumption|exact List.Mem.head _|apply List.Mem.tail|apply List.mem_append_right)):x∈l:=h
theorem zS{α:Type _}{A B:List α}(h:∀x∈A,x∈B:=by intro _ h;repeat (first|exact h|apply List.mem_cons_of_mem|apply List.mem_append_right)):∀x∈A,x∈B:=h
namespace Go.Sx
open Go
abbrev Hp:=List (Nat×Obj)
structure Gh where
 w:World
 fr:Hp
def Gh.add(g:Gh)(F:Hp):Gh:=⟨g.w,F++g.fr⟩
structure Own(g:Gh)(H:Hp)(w:World):Prop where
 os:w.os=g.w.os
 out:w.output=g.w.output
 tape:w.tape=g.w.tape
 nd:((H++g.fr).map Prod.fst).Nodup
 x5:∀x,x∈H++g.fr→w.heap[x.1]? =some x.2
theorem Own.has{g:Gh}{H:Hp}{w:World}(h:Own g H w)(x:Nat×Obj)(hx:x∈H):w.heap[x.1]? =some x.2:=h.x5 x (List.mem_append_left _ hx)
theorem Own.perm{g:Gh}{H H':Hp}{w:World}(h:Own g H w)(p:H.Perm H'):Own g H' w:=
 ⟨h.os,h.out,h.tape,((p.append_right _).map _).nodup_iff.1 h.nd,fun x hx=>h.x5 x ((p.append_right _).mem_iff.2 hx)⟩
theorem Own.right{g:Gh}{A B:Hp}{w:World}(h:Own g (A++B) w):Own g B w:=
 ⟨h.os,h.out,h.tape,by have:=h.nd;rw[List.append_assoc,List.map_append]at this;exact(List.nodup_append.1 this).2.1,fun x hx=>h.x5 x (by rw[List.append_assoc];exact List.mem_append_right _ hx)⟩
theorem Own.left{g:Gh}{A B:Hp}{w:World}(h:Own g (A++B) w):Own g A w:=Own.right (A:=B) (h.perm List.perm_append_comm)
theorem Own.tail{g:Gh}{x:Nat×Obj}{B:Hp}{w:World}(h:Own g (x::B) w):Own g B w:=Own.right (A:=[x]) h
theorem Own.gF{g:Gh}{A F:Hp}{w:World}:Own g (A++F) w↔Own (g.add F) A w:=by
 constructor
 ·intro h;exact⟨h.os,h.out,h.tape,by have:=h.nd;rw[List.append_assoc]at this;exact this,fun x hx=>h.x5 x (by rw[List.append_assoc];exact hx)⟩
 ·intro h;exact⟨h.os,h.out,h.tape,by have:=h.nd;rw[List.append_assoc];exact this,fun x hx=>h.x5 x (by rw[List.append_assoc]at hx;exact hx)⟩
def aO(H H':Hp):Prop:=∀g w,Own g H w→Own g H' w
theorem aO.refl(H:Hp):aO H H:=fun _ _ h=>h
theorem aO.trans{A B C:Hp}(h:aO A B)(h':aO B C):aO A C:=fun g w x=>h' g w (h g w x)
theorem aO.perm{A B:Hp}(p:A.Perm B):aO A B:=fun _ _ h=>h.perm p
theorem aO.right{A B:Hp}:aO (A++B) B:=fun _ _ h=>h.right
theorem aO.left{A B:Hp}:aO (A++B) A:=fun _ _ h=>h.left
theorem aO.tail{x:Nat×Obj}{B:Hp}:aO (x::B) B:=fun _ _ h=>h.tail
theorem aO.frame{A B:Hp}(h:aO A B)(F:Hp):aO (A++F) (B++F):=fun _ _ o=>Own.gF.2 (h _ _ (Own.gF.1 o))
theorem aO.cL{A B:Hp}(h:aO A B)(F:Hp):aO (F++A) (F++B):=(aO.perm List.perm_append_comm).trans ((h.frame F).trans (.perm List.perm_append_comm))
inductive cJ(b:Nat)(o o':Obj):Hp→Hp→Prop
 |head (R:Hp):cJ b o o' ((b,o)::R) ((b,o')::R)
 |tail {x:Nat×Obj} {R R':Hp} (h:cJ b o o' R R'):cJ b o o' (x::R) (x::R')
theorem cJ.mem{b:Nat}{o o':Obj}{H H':Hp}(h:cJ b o o' H H'):(b,o)∈H:=by
 induction h with
 |head R=>simp
 |tail _ ih=>simp[ih]
theorem cJ.keys{b:Nat}{o o':Obj}{H H':Hp}(h:cJ b o o' H H'):H'.map Prod.fst=H.map Prod.fst:=by
 induction h with
 |head R=>simp
 |tail _ ih=>simp[ih]
theorem cJ.Ik{b:Nat}{o o':Obj}{H H':Hp}(h:cJ b o o' H H')(nd:(H.map Prod.fst).Nodup):∀x∈H',x=(b,o')∨(x∈H∧x.1≠b):=by
 induction h with
 |head R=>
  intro x hx
  rcases List.mem_cons.1 hx with rfl|hx
  ·exact .inl rfl
  ·refine .inr ⟨by simp[hx],fun e=>?_⟩
   simp only[List.map_cons,List.nodup_cons]at nd
   exact nd.1 (e▸List.mem_map_of_mem hx)
 | @tail y R R' h ih=>
  intro x hx
  simp only[List.map_cons,List.nodup_cons]at nd
  rcases List.mem_cons.1 hx with rfl|hx
  ·refine .inr ⟨by simp,fun e=>?_⟩
   exact nd.1 (e▸List.mem_map_of_mem (f:=Prod.fst) h.mem)
  ·rcases ih nd.2 x hx with h1|h1
   ·exact .inl h1
   ·exact .inr ⟨by simp[h1.1],h1.2⟩
theorem cJ.append{b:Nat}{o o':Obj}{C C':Hp}(h:cJ b o o' C C')(B:Hp):cJ b o o' (C++B) (C'++B):=by
 induction h with
 |head R=>exact .head _
 |tail _ ih=>exact .tail ih
theorem Own.cz{g:Gh}{H H':Hp}{w w':World}{b:Nat}{o o':Obj}(h:Own g H w)(u:cJ b o o' H H')
 (hos:w'.os=w.os)(hout:w'.output=w.output)(MI:w'.tape=w.tape)
 (hb:w'.heap[b]? =some o')(hr:∀c,c≠b→w'.heap[c]? =w.heap[c]?):Own g H' w':=
 ⟨hos.trans h.os,hout.trans h.out,MI.trans h.tape,by rw[(u.append g.fr).keys];exact h.nd,fun x hx=>by
  rcases(u.append g.fr).Ik h.nd x hx with rfl|⟨h1,h2⟩
  ·exact hb
  ·rw[hr _ h2];exact h.x5 x h1⟩
theorem Own.same{g:Gh}{H:Hp}{w w':World}(h:Own g H w)(hos:w'.os=w.os)(hout:w'.output=w.output)(MI:w'.tape=w.tape)
 (hr:∀(c:Nat) (o:Obj),w.heap[c]? =some o→w'.heap[c]? =some o):Own g H w':=
 ⟨hos.trans h.os,hout.trans h.out,MI.trans h.tape,h.nd,fun x hx=>hr _ _ (h.x5 x hx)⟩
theorem Own.drew{g:Gh}{H:Hp}{w:World}(h:Own g H w):Own g H w.drew:=h.same rfl rfl rfl fun _ _ h=>h
theorem Own.wF{g:Gh}{H:Hp}{w:World}(h:Own g H w):Own g H {w with drawn:=w.drawn+1}:=h.drew
theorem Own.lt0{g:Gh}{H:Hp}{w:World}(h:Own g H w){x:Nat×Obj}(hx:x∈H++g.fr):x.1<w.heap.size:=by
 have:=h.x5 x hx
 exact(Array.getElem?_eq_some_iff.1 this).1
theorem Own.lt{g:Gh}{H:Hp}{w:World}(h:Own g H w){x:Nat×Obj}(hx:x∈H):x.1<w.heap.size:=h.lt0 (List.mem_append_left _ hx)
theorem Own.NM{g:Gh}{H:Hp}{w:World}(h:Own g H w):w.heap.size∉(H++g.fr).map Prod.fst:=by
 intro hm
 obtain⟨x,hx,e⟩:=List.mem_map.1 hm
 have:=h.lt0 hx
 omega
theorem Own.fresh{g:Gh}{H:Hp}{w:World}(h:Own g H w):w.heap.size∉H.map Prod.fst:=fun hm=>h.NM (by rw[List.map_append];exact List.mem_append_left _ hm)
theorem Own.alloc{g:Gh}{H:Hp}{w:World}(h:Own g H w)(o:Obj):Own g ((w.heap.size,o)::H) (w.alloc o):=by
 refine⟨h.os,h.out,h.tape,?_,?_⟩
 ·rw[List.cons_append,List.map_cons,List.nodup_cons];exact⟨h.NM,h.nd⟩
 ·intro x hx
  rw[List.cons_append]at hx
  rcases List.mem_cons.1 hx with rfl|hx
  ·show(w.heap.push o)[w.heap.size]? =some o
   rw[Array.getElem?_push,if_pos rfl]
  ·have:=h.x5 x hx
   have hl:=h.lt0 hx
   show(w.heap.push o)[x.1]? =some x.2
   rw[Array.getElem?_push,if_neg (by omega)]
   exact this
theorem Own.cell{g:Gh}{H:Hp}{w:World}(h:Own g H w){b:Nat}{c:Array Value}{T:TypeId}{fz:Nat×Nat}(hm:(b,Obj.cells c T fz)∈H)(off:Nat):
  w.cell? ⟨b,off,none⟩=c[off]? :=by
 have:=h.has _ hm
 simp only[World.cell?]
 simp only at this
 rw[this]
 rfl
theorem Own.frozen{g:Gh}{H:Hp}{w:World}(h:Own g H w){b:Nat}{c:Array Value}{T:TypeId}(hm:(b,Obj.cells c T (0,0))∈H)(off:Nat)(sp:Option Nat):
  w.frozen? ⟨b,off,sp⟩=false:=by
 have:=h.has _ hm
 simp only at this
 simp[World.frozen?,this]
def ji(c:Array Value)(off:Nat):List Value→Array Value
 | []=>c
 |v::r=>ji (c.setIfInBounds off v) (off+1) r
theorem Own.setCell{g:Gh}{H:Hp}{w:World}(h:Own g H w){b:Nat}{c:Array Value}{T:TypeId}{fz:Nat×Nat}{H':Hp}(off:Nat)(v:Value)
 (u:cJ b (.cells c T fz) (.cells (c.setIfInBounds off v) T fz) H H'):Own g H' (w.setCell ⟨b,off,none⟩ v):=by
 refine h.cz u rfl rfl rfl ?_ ?_
 ·have:=h.has _ u.mem
  simp only at this
  simp[World.setCell,Array.getElem?_modify,this]
 ·intro d hd
  simp only[World.setCell]
  rw[Array.getElem?_modify,if_neg (fun e=>hd (Eq.symm e))]
theorem cJ.re{b:Nat}{o o':Obj}{H H':Hp}(u:cJ b o o' H H')(o₁:Obj):∃H₁,cJ b o o₁ H H₁∧cJ b o₁ o' H₁ H':=by
 induction u with
 |head R=>exact⟨_,.head R,.head R⟩
 |tail _ ih=>obtain⟨H₁,u1,u2⟩:=ih;exact⟨_,.tail u1,.tail u2⟩
theorem fV{P:Program}{g:Gh}{b:Nat}{T:TypeId}(off:Nat):∀(l:List Value) (i:Nat) (c:Array Value) (H H':Hp) (w:World),Own g H w→
  cJ b (.cells c T (0,0)) (.cells (ji c (off+i) l) T (0,0)) H H'→(∀v∈l,v.oneCell'=true)→off+i+l.length≤c.size→
  ∃w',(storeCells ⟨b,off,none⟩ l i).run P w=.ok () w'∧Own g H' w'
 | [],i,c,H,H',w,h,u,_,_=>by
  refine⟨w,rfl,?_⟩
  exact h.cz u rfl rfl rfl (h.has _ u.mem) fun _ _=>rfl
 |v::r,i,c,H,H',w,h,u,h1,hs=>by
  obtain⟨H₁,u1,u2⟩:=u.re (.cells (c.setIfInBounds (off+i) v) T (0,0))
  have jz:=h.setCell (off+i) v u1
  simp only[List.length_cons]at hs
  obtain⟨w',hr,ho⟩:=fV (P:=P) off r (i+1) (c.setIfInBounds (off+i) v) H₁ H' _ jz (by simpa[ji,Nat.add_assoc]using u2) (fun x hx=>h1 x (by simp[hx])) (by simp;omega)
  refine⟨w',?_,ho⟩
  have hc:w.cell? ⟨b,off+i,none⟩=some c[off+i]:=by
   rw[h.cell u.mem,Array.getElem?_eq_getElem]
  have hf:=h.frozen u.mem (off+i) none
  have ha:Addr.add ⟨b,off,none⟩ i=⟨b,off+i,none⟩:=Addr.add_lit _ _ _
  simp only[storeCells,Sem.run_bind,ha,run_store P w _ v .plain (h1 v (by simp)),hc,hf,Bool.false_eq_true,if_false,Result.andThen_ok,hr]
theorem jN{P:Program}{g:Gh}{H:Hp}{w:World}(h:Own g H w){b:Nat}{c:Array Value}{T:TypeId}{fz:Nat×Nat}(hm:(b,Obj.cells c T fz)∈H)
 (off n:Nat)(hs:off+n≤c.size):(loadCells ⟨b,off,none⟩ n).run P w=.ok (c.extract off (off+n)) w:=by
 have hl:((c.extract off (off+n)).toList).length=n:=by simp;omega
 have:=run_loadCells_list (P:=P) w ⟨b,off,none⟩ (c.extract off (off+n)).toList (fun j v hj=>by
  rw[Addr.add_lit,h.cell hm]
  have QO:j<n:=by
   have:=(List.getElem?_eq_some_iff.1 hj).1
   omega
  rw[Array.getElem?_toList,Array.getElem?_extract]at hj
  rw[if_pos (by omega)]at hj
  exact hj)
 rw[hl]at this
 exact this
end Go.Sx
namespace Go.Sx
open Go
abbrev Fr:=Nat→Value
def cz(fr:Fr)(d:Option Nat)(v:Value):Fr:=
 match d with
 |none=>fr
 |some d=>fun s=>cond (Nat.beq s d) v (fr s)
def ev(fr:Fr):Operand→Value
 | .tmp t=>fr t
 | .const v=>v
 | .global g=>.pointer (some ⟨g,0,none⟩)
 | .func f=>.func (.func f) #[] #[]
def eA(n:Nat):Option Nat→Bool
 |none=>true
 |some d=>Nat.blt d n
structure cD(ds:List Deferred)(n:Nat)(a:Act)(fr:Fr):Prop where
 defers:a.defers=ds
 size:a.tmps.size=n
 get:∀s,a.tmps.getD s undef=fr s
theorem cD.eval{ds:List Deferred}{n:Nat}{a:Act}{fr:Fr}(h:cD ds n a fr):a.eval=ev fr:=by
 funext x
 cases x<;>simp only[Act.eval,ev]
 exact h.get _
theorem cD.put{ds:List Deferred}{n:Nat}{a:Act}{fr:Fr}(h:cD ds n a fr){d:Option Nat}(hd:eA n d=true)(v:Value):cD ds n (a.put d v) (cz fr d v):=by
 cases d with
 |none=>exact h
 |some d=>
  have hlt:d<n:=by simpa[eA,Nat.blt_eq]using hd
  refine⟨h.defers,by simp[Act.put,h.size],fun s=>?_⟩
  simp only[Act.put,cz]
  have hs:=h.size
  by_cases e:s=d
  ·subst e;simp[hs,hlt]
  ·have e':d≠s:=fun x=>e x.symm
   have hb:Nat.beq s d=false:=by
    cases hh:Nat.beq s d
    ·rfl
    ·exact absurd (Nat.eq_of_beq_eq_true hh) e
   rw[hb]
   simp only[cond_false]
   have:=h.get s
   simpa[Array.getD_eq_getD_getElem?,Array.getElem?_setIfInBounds_ne e']using this
def ai(P:Program)(g:Gh)(f:FuncId)(args:Array Value)(H:Hp)(R:Ending→Hp→Prop):Prop:=
 ∀w,Own g H w→Calls P f args w fun e w'=>∃H',Own g H' w'∧R e H'
theorem ai.mono{P:Program}{g:Gh}{f:FuncId}{args:Array Value}{H:Hp}{R R':Ending→Hp→Prop}(h:ai P g f args H R)(hr:∀e H',R e H'→R' e H'):
  ai P g f args H R':=fun w hw=>(h w hw).mono fun e w' ⟨H',o,r⟩=>⟨H',o,hr _ _ r⟩
theorem ai.pre{P:Program}{g:Gh}{f:FuncId}{args:Array Value}{H H':Hp}{R:Ending→Hp→Prop}(h:ai P g f args H' R)(he:aO H H'):
  ai P g f args H R:=fun w hw=>h w (he _ _ hw)
theorem ai.post{P:Program}{g:Gh}{f:FuncId}{args:Array Value}{H:Hp}{R R':Ending→Hp→Prop}(h:ai P g f args H R)
 (hr:∀e H',R e H'→∃lT,aO H' lT∧R' e lT):ai P g f args H R':=fun w hw=>(h w hw).mono fun e w' ⟨H',o,r⟩=>
 let ⟨lT,en,r'⟩:=hr _ _ r;⟨lT,en _ _ o,r'⟩
def Zw(K:Value→Hp→Prop)(KP:List PanicEntry→Hp→Prop):Ending→Hp→Prop
 | .returned v,H=>K v H
 | .panicked ch,H=>KP ch H
 | .outgrown,_=>False
def nq(P:Program)(g:Gh)(K:Value→Hp→Prop)(KP:List PanicEntry→Hp→Prop):Result Next→Prop
 | .ok (.value v) w=>∃H,Own g H w∧K v H
 | .ok .skip w=>∃H,Own g H w∧K undef H
 | .ok (.enter f args) w=>Calls P f args w fun e w'=>∃H,Own g H w'∧Zw K KP e H
 | .halt (.panic v) w=>∃H,Own g H w∧KP [{v,recovered:=false}] H
 |_=>False
def nk(P:Program)(g:Gh)(o:Oper)(ρ:Operand→Value)(H:Hp)(K:Value→Hp→Prop)(KP:List PanicEntry→Hp→Prop):Prop:=
 ∀w,Own g H w→nq P g K KP ((execOp ρ o).run P w)
def bq(H:Hp)(o:Obj)(k:Nat→Hp→Prop):Prop:=∀b,b∉H.map Prod.fst→k b ((b,o)::H)
def aA(c a b:Value)(k:Value→Prop):Prop:=∃t,c=.bool t∧k (cond t a b)
def Ld(H:Hp)(p:Value)(k:Value→Prop):Prop:=
 ∃b off c T fz v,p=.pointer (some ⟨b,off,none⟩)∧(b,Obj.cells c T fz)∈H∧c[off]? =some v∧k v
def az(n:Nat)(H:Hp)(p:Value)(k:Value→Prop):Prop:=
 ∃b off c T fz,p=.pointer (some ⟨b,off,none⟩)∧(b,Obj.cells c T fz)∈H∧off+n≤c.size∧k (.agg (c.extract off (off+n)))
def St(n:Nat)(H:Hp)(p x:Value)(k:Hp→Prop):Prop:=
 ∃b off c T H',p=.pointer (some ⟨b,off,none⟩)∧x.cells.size=n∧off+n≤c.size∧(∀v∈x.cells.toList,v.oneCell'=true)∧
  cJ b (.cells c T (0,0)) (.cells (ji c off x.cells.toList) T (0,0)) H H'∧k H'
inductive BK|num|bool|ptr|slice|map|func|str|other
def yo:TypeDesc→BK
 | .bool=>.bool
 | .int _=>.num
 | .pointer _=>.ptr
 | .slice _=>.slice
 | .map _ _=>.map
 | .func _ _ _=>.func
 | .string=>.str
 |_=>.other
def kD(op:BinOp)(k:IntKind)(a b:Int):Option Value:=
 match op with
 | .add=>some (.int k (k.wrap (a+b)))
 | .sub=>some (.int k (k.wrap (a-b)))
 | .mul=>some (.int k (k.wrap (a*b)))
 | .quo=>if b=0 then none else some (.int k (k.wrap (a.tdiv b)))
 | .rem=>if b=0 then none else some (.int k (a.tmod b))
 | .and=>some (.int k (bits .and k a b))
 | .or=>some (.int k (bits .or k a b))
 | .xor=>some (.int k (bits .xor k a b))
 | .andNot=>some (.int k (bits .andNot k a b))
 | .eql=>some (.bool (a==b))
 | .neq=>some (.bool (a !=b))
 | .lss=>some (.bool (decide (a<b)))
 | .leq=>some (.bool (decide (a≤b)))
 | .gtr=>some (.bool (decide (b<a)))
 | .geq=>some (.bool (decide (b≤a)))
 |_=>none
def gA(kd:BK)(op:BinOp)(x y:Value):Option Value:=
 match x with
 | .int k a=>
  match y with
  | .int k' b=>
   match op with
   | .shl=>if b<0 then none else some (.int k (k.wrap (a*2^(min b.toNat k.bits))))
   | .shr=>if b<0 then none else some (.int k (a.fdiv (2^(min b.toNat k.bits))))
   |op=>if k=k' then kD op k a b else none
  |_=>none
 | .bool a=>
  match kd,op,y with
  | .bool,.eql,.bool b=>some (.bool (a==b))
  | .bool,.neq,.bool b=>some (.bool (!(a==b)))
  |_,_,_=>none
 | .string a=>
  match op,y with
  | .eql,.string b=>some (.bool (a.toList==b.toList))
  | .neq,.string b=>some (.bool (!(a.toList==b.toList)))
  |_,_=>none
 | .pointer a=>
  match kd,op,y with
  | .ptr,.eql,.pointer b=>if a.isNone∨b.isNone then some (.bool (a.isNone&&b.isNone))else none
  | .ptr,.neq,.pointer b=>if a.isNone∨b.isNone then some (.bool (!(a.isNone&&b.isNone)))else none
  |_,_,_=>none
 | .slice a n c=>
  match kd,op,y with
  | .slice,.eql,.slice b _ _=>if a.isNone∨b.isNone then some (.bool (a.isNone&&b.isNone))else none
  | .slice,.neq,.slice b _ _=>if a.isNone∨b.isNone then some (.bool (!(a.isNone&&b.isNone)))else none
  |_,_,_=>none
 | .map a=>
  match kd,op,y with
  | .map,.eql,.map b=>if a.isNone∨b.isNone then some (.bool (a.isNone&&b.isNone))else none
  | .map,.neq,.map b=>if a.isNone∨b.isNone then some (.bool (!(a.isNone&&b.isNone)))else none
  |_,_,_=>none
 |_=>none
def ae(kd:BK)(op:BinOp)(x y:Value)(k:Value→Prop):Prop:=∃v,gA kd op x y=some v∧k v
def ZV(op:UnOp)(x:Value):Option Value:=
 match op,x with
 | .neg,.int k n=>some (.int k (k.wrap (0-n)))
 | .not,.bool b=>some (.bool !b)
 | .xor,.int k n=>some (.int k (bits .xor k (if k.signed then-1 else k.max) n))
 |_,_=>none
def Un(op:UnOp)(x:Value)(k:Value→Prop):Prop:=∃v,ZV op x=some v∧k v
def bL(kd:IntKind)(x:Value)(k:Value→Prop):Prop:=∃j n,x=.int j n∧k (.int kd (kd.wrap n))
def aa(off:Nat)(x:Value)(k:Value→Prop):Prop:=∃b o,x=.pointer (some ⟨b,o,none⟩)∧k (.pointer (some ⟨b,o+off,none⟩))
def Bb(off:Nat)(x:Value)(k:Value→Prop):Prop:=∃cs v,x=.agg cs∧cs[off]? =some v∧k v
def RU(off n:Nat)(x:Value)(k:Value→Prop):Prop:=∃cs,x=.agg cs∧k (.agg (cs.extract off (off+n)))
def ah(size:Nat)(x ix:Value)(k:Value→Prop):Prop:=
 ∃b o n c kd i,x=.slice (some ⟨b,o,none⟩) n c∧ix=.int kd i∧0≤i∧i<(n:Int)∧k (.pointer (some ⟨b,o+i.toNat*size,none⟩))
def AS(len size:Nat)(x ix:Value)(k:Value→Prop):Prop:=
 ∃b o kd i,x=.pointer (some ⟨b,o,none⟩)∧ix=.int kd i∧0≤i∧i<(len:Int)∧k (.pointer (some ⟨b,o+i.toNat*size,none⟩))
def Ql:Option Value→Option Int
 |none=>some 0
 |some (.int _ n)=>some n
 |_=>none
def IF(len:Nat):Option Value→Option Int
 |none=>some len
 |some (.int _ n)=>some n
 |_=>none
def gh(size:Nat)(x:Value)(lo hi:Option Value)(k:Value→Prop):Prop:=
 ∃a n c l h,x=.slice a n c∧Ql lo=some l∧IF n hi=some h∧0≤l∧l≤h∧h≤(c:Int)∧
  k (.slice (if c=l.toNat then a else a.map (·.add (l.toNat*size))) (h.toNat-l.toNat) (c-l.toNat))
def Ext(i:Nat)(x:Value)(k:Value→Prop):Prop:=∃vs v,x=.tuple vs∧vs[i]? =some v∧k v
def aG(x:Value)(k:Value→Prop):Prop:=∃a n c,x=.slice a n c∧k (.int .i64 n)
def yw(H:Hp)(x:Value)(k:Value→Prop):Prop:=
 ∃m,x=.map m∧((m=none∧k (.int .i64 0))∨∃b es clock,m=some b∧(b,Obj.map es clock)∈H∧k (.int .i64 es.size))
def Cells(H:Hp)(base:Option Addr)(n:Nat)(cs:Array Value):Prop:=
 match base with
 |none=>cs=#[]
 |some a=>(n=0∧cs=#[])∨(a.spot=none∧∃c T fz,(a.block,Obj.cells c T fz)∈H∧a.off+n≤c.size∧cs=c.extract a.off (a.off+n))
def App(P:Program)(elem size bytes:Nat)(zero:Value)(H:Hp)(s x:Value)(k:Value→Hp→Prop):Prop:=
 ∃base n cap xb m xc olds news,s=.slice base n cap∧x=.slice xb m xc∧Cells H base (n*size) olds∧Cells H xb (m*size) news∧
  news.size=m*size∧olds.size=n*size∧(∀v∈news.toList,v.oneCell'=true)∧
  (n+m≤cap→match base with
   |none=>k (.slice none (n+m) cap) H
   |some a=>∃c T H',a.spot=none∧a.off+n*size+m*size≤c.size∧cJ a.block (.cells c T (0,0)) (.cells (ji c (a.off+n*size) news.toList) T (0,0)) H H'∧k (.slice (some a) (n+m) cap) H')∧
  (cap<n+m→(n+m)*bytes≤140737488355328∧(n+m:Nat)≤9223372036854775807∧∀fY,n+m≤fY→
   bq H (.cells (olds++news++Builtin.zeroCells zero.cells (fY-(n+m))) elem (0,0)) fun b H'=>∃lT,aO H' lT∧k (.slice (some ⟨b,0,none⟩) (n+m) fY) lT)
def cc(elem size bytes:Nat)(zero:Value)(H:Hp)(l c:Value)(k:Value→Hp→Prop):Prop:=
 ∃kl kc ln cn,l=.int kl (ln:Nat)∧c=.int kc (cn:Nat)∧ln≤cn∧(cn:Int)≤9223372036854775807∧cn*bytes≤281474976710656∧
  bq H (.cells (madeCells zero.cells (cn*size)) elem (0,0)) fun b H'=>k (.slice (some ⟨b,0,none⟩) ln cn) H'
def qg(H:Hp)(k:Value→Hp→Prop):Prop:=bq H (.map #[] 0) fun b H'=>k (.map (some b)) H'
def G3(H:Hp)(m:Value)(es:Array MapEntry):Prop:=(m=.map none∧es=#[])∨∃b clock,m=.map (some b)∧(b,Obj.map es clock)∈H
def qi(kd:TypeDesc)(zero:Value)(ok:Bool)(H:Hp)(m key:Value)(k:Value→Prop):Prop:=
 ∃es r,G3 H m es∧Instr.findNow kd key es.toList 0=some r∧
  k (match r with
   |some (_,v)=>cond ok (.tuple #[v,.bool true]) v
   |none=>cond ok (.tuple #[zero,.bool false]) zero)
def gi(kd:TypeDesc)(H:Hp)(m key val:Value)(k:Hp→Prop):Prop:=
 ∃b es clock r,m=.map (some b)∧Instr.findNow kd key es.toList 0=some r∧
  match r with
  |some (i,_)=>(∀e,es[i]? =some e→Instr.sameBits 10000 e.key key=true)∧i<es.size∧∃H',cJ b (.map es clock) (.map (es.modify i fun e=>{e with key,val}) clock) H H'∧k H'
  |none=>∃H',cJ b (.map es clock) (.map (es.push {key,val,born:=clock}) (clock+1)) H H'∧k H'
def uF(kd:TypeDesc)(H:Hp)(m key:Value)(k:Hp→Prop):Prop:=
 (m=.map none∧k H)∨∃b es clock r,m=.map (some b)∧Instr.findNow kd key es.toList 0=some r∧
  match r with
  |some (i,_)=>∃H',cJ b (.map es clock) (.map (es.eraseIdxIfInBounds i) clock) H H'∧k H'
  |none=>(b,Obj.map es clock)∈H∧k H
def cR(P:Program)(f:FuncId):Bool:=
 match P.funcs[f]? with
 |none=>false
 |some fn=> !(fn.name== "runtime.NumGoroutine") &&fn.body.isSome
def ag(P:Program)(g:Gh)(f:FuncId)(args:Array Value)(H:Hp)(K:Value→Hp→Prop)(KP:List PanicEntry→Hp→Prop):Prop:=
 ai P g f args H (Zw K KP)
def fx(P:Program)(g:Gh)(fv:Value)(args:Array Value)(H:Hp)(K:Value→Hp→Prop)(KP:List PanicEntry→Hp→Prop):Prop:=
 ∃f first captured,fv=.func (.func f) first captured∧cR P f=true∧ag P g f (first++args++captured) H K KP
def FO(P:Program)(kt:TypeId)(x y:Value)(b:Bool):Prop:=∀w,(Op.equal kt x y).run P w=.ok b w
def nX(P:Program)(kt:TypeId)(x:Value):Prop:=∀e w,(Instr.checkKey e 10000 kt x).run P w=.ok () w
def lU(P:Program)(kt:TypeId)(key:Value):List MapEntry→Nat→Option (Nat×Value)→Prop
 | [],_,r=>r=none
 |e::es,i,r=>∃b,FO P kt key e.key b∧(b=true→r=some (i,e.val))∧(b=false→lU P kt key es (i+1) r)
def kL(P:Program)(kt:TypeId)(zero:Value)(ok:Bool)(H:Hp)(m key:Value)(k:Value→Prop):Prop:=
 ∃es r,G3 H m es∧nX P kt key∧lU P kt key es.toList 0 r∧
  k (match r with
   |some (_,v)=>cond ok (.tuple #[v,.bool true]) v
   |none=>cond ok (.tuple #[zero,.bool false]) zero)
def lJ(P:Program)(kt:TypeId)(H:Hp)(m key val:Value)(k:Hp→Prop):Prop:=
 ∃b es clock r,m=.map (some b)∧nX P kt key∧lU P kt key es.toList 0 r∧
  match r with
  |some (i,_)=>(∀e,es[i]? =some e→Instr.sameBits 10000 e.key key=true)∧i<es.size∧∃H',cJ b (.map es clock) (.map (es.modify i fun e=>{e with key,val}) clock) H H'∧k H'
  |none=>∃H',cJ b (.map es clock) (.map (es.push {key,val,born:=clock}) (clock+1)) H H'∧k H'
def qh(P:Program)(kt:TypeId)(H:Hp)(m key:Value)(k:Hp→Prop):Prop:=
 nX P kt key∧((m=.map none∧k H)∨∃b es clock r,m=.map (some b)∧lU P kt key es.toList 0 r∧
  match r with
  |some (i,_)=>∃H',cJ b (.map es clock) (.map (es.eraseIdxIfInBounds i) clock) H H'∧k H'
  |none=>(b,Obj.map es clock)∈H∧k H)
def Zg(H:Hp)(x:Value)(k:Value→Hp→Prop):Prop:=
 (x=.map none∧bq H (.mapIter none 0 #[] 0) fun b H'=>k (.pointer (some ⟨b,0,none⟩)) H')∨
 ∃m es clock,x=.map (some m)∧(m,Obj.map es clock)∈H∧bq H (.mapIter (some m) clock #[] clock) fun b H'=>k (.pointer (some ⟨b,0,none⟩)) H'
def Ws(H:Hp)(it:Value)(k:Value→Hp→Prop):Prop:=
 ∃b mo since seen last,it=.pointer (some ⟨b,0,none⟩)∧(b,Obj.mapIter mo since seen last)∈H∧
  match mo with
  |none=>k (.tuple #[.bool false]) H
  |some m=>∃es clock,(m,Obj.map es clock)∈H∧(∀e∈es.toList,e.born<since∧e.born<last)∧
   (∀e∈es.toList,e.born∉seen→∃H',cJ b (.mapIter (some m) since seen last) (.mapIter (some m) since (seen.push e.born) clock) H H'∧k (.tuple #[.bool true,e.key,e.val]) H')∧
   ((∀e∈es.toList,e.born∈seen)→k (.tuple #[.bool false]) H)
def OO(H:Hp)(it:Value)(k:Value→Prop):Prop:=
 ∃b m since seen stamp clock es e,it=.pointer (some ⟨b,0,none⟩)∧(b,Obj.mapIter (some m) since seen clock)∈H∧seen.back?=some stamp∧(m,Obj.map es clock)∈H∧es.find? (·.born==stamp)=some e∧k (.tuple #[e.key,e.val])
def Dl(x y:Value)(k:Value→Prop):Prop:=∃kd a b,x=.int kd a∧y=.int kd b∧k (.int kd (if b>a then b else a))
def Zu(x y:Value)(k:Value→Prop):Prop:=∃kd a b,x=.int kd a∧y=.int kd b∧k (.int kd (if b<a then b else a))
def j4(H:Hp)(x:Value)(k:Value→Prop):Prop:=
 ∃base n c,∃bs:List UInt8,x=.slice base n c∧Cells H base n ((bs.map fun b=>Value.int .u8 b.toNat).toArray)∧bs.length=n∧k (.string ⟨bs.toArray⟩)
def Tf(x i:Value)(k:Value→Prop):Prop:=∃s kd j b,x=.string s∧i=.int kd j∧0≤j∧s[j.toNat]? =some b∧k (.int .u8 b.toNat)
def Vt(x:Value)(k:Value→Prop):Prop:=∃s,x=.string s∧k (.int .i64 s.size)
def plainKey:TypeDesc→Bool
 | .int _| .string| .bool=>true
 |_=>false
def cO:TypeDesc→Bool
 | .struct _| .array _ _=>true
 |_=>false
end Go.Sx
namespace Go.Sx
open Go
section
variable {P:Program} {g:Gh} {H:Hp} {K:Value→Hp→Prop} {KP:List PanicEntry→Hp→Prop}
theorem eZ{t:TypeId}{i:TypeInfo}{z:Value}(hi:P.info? t=some i)(hz:i.zero=some z)(w:World):(zeroValue t).run P w=.ok z w:=by
 simp[zeroValue,typeInfo,hi,hz]
theorem nx{t:TypeId}{d:TypeDesc}(hd:P.underlying t=some d)(w:World):(isAgg t).run P w=.ok (cO d) w:=by
 simp only[isAgg,Sem.run_bind,run_underlying hd,Result.andThen_ok]
 cases d<;>rfl
theorem run_sizeOf{t:TypeId}{i:TypeInfo}(hi:P.info? t=some i)(w:World):(sizeOf t).run P w=.ok i.size w:=by
 simp[sizeOf,typeInfo,hi]
theorem Ld.run{p:Value}{k:Value→Prop}(h:Ld H p k){w:World}(hw:Own g H w){t:TypeId}{d:TypeDesc}(hd:P.underlying t=some d)(ha:cO d=false):
  ∃v,(Instr.loadAt t p).run P w=.ok v w∧k v:=by
 obtain⟨b,off,c,T,fz,v,rfl,hm,hc,hk⟩:=h
 refine⟨v,?_,hk⟩
 have:=hw.cell hm off
 rw[hc]at this
 simp only[Instr.loadAt,Instr.sureAddr,loadVar,Sem.run_bind,Sem.run_pure,Result.andThen_ok,nx hd,ha,Sem.run_ite,Bool.false_eq_true,if_false,run_load,this]
theorem az.run{n:Nat}{p:Value}{k:Value→Prop}(h:az n H p k){w:World}(hw:Own g H w){t:TypeId}{d:TypeDesc}(hd:P.underlying t=some d)(ha:cO d=true)
 {i:TypeInfo}(hi:P.info? t=some i)(hn:i.size=n):
  ∃v,(Instr.loadAt t p).run P w=.ok v w∧k v:=by
 obtain⟨b,off,c,T,fz,rfl,hm,hs,hk⟩:=h
 refine⟨_,?_,hk⟩
 simp only[Instr.loadAt,Instr.sureAddr,loadVar,Sem.run_bind,Sem.run_pure,Result.andThen_ok,nx hd,ha,Sem.run_ite,if_true,run_sizeOf hi,hn,jN hw hm off n hs]
theorem St.run{n:Nat}{p x:Value}{k:Hp→Prop}(h:St n H p x k){w:World}(hw:Own g H w){t:TypeId}{i:TypeInfo}(hi:P.info? t=some i)(hn:i.size=n):
  ∃w' H',(Instr.storeAt t p x).run P w=.ok () w'∧Own g H' w'∧k H':=by
 obtain⟨b,off,c,T,H',rfl,hx,hs,hv,hu,hk⟩:=h
 obtain⟨w',hr,ho⟩:=fV (P:=P) off x.cells.toList 0 c H H' w hw (by simpa using hu) hv (by simp;omega)
 refine⟨w',H',?_,ho,hk⟩
 simp only[Instr.storeAt,Instr.sureAddr,storeVar,Sem.run_bind,Sem.run_pure,Result.andThen_ok,run_sizeOf hi,hn,hx,ne_eq,not_true,if_false,hr]
theorem MA{op:BinOp}{k:IntKind}{a b:Int}{v:Value}{t:TypeId}(h:kD op k a b=some v)(w:World)(hs:op≠.shl∧op≠.shr):
  (binOp op t (.int k a) (.int k b)).run P w=.ok v w:=by
 cases op<;>simp[kD]at h hs<;>try subst h
 case quo=> 
  obtain⟨h0,rfl⟩:=h
  simp[binOp,Op.intDiv,h0]
 case rem=>
  obtain⟨h0,rfl⟩:=h
  simp[binOp,Op.intDiv,h0]
 all_goals first
  |simp[binOp,Op.intArith];done
  |simp[binOp,Op.intCmp];done
  |(simp only[binOp_and,binOp_or,binOp_xor,binOp_andNot,intBits_and,intBits_or,intBits_xor,intBits_andNot];rfl)
theorem iQ{t:TypeId}{x y:Value}{r:Result Bool}{w:World}(h:∀d,(Op.equalIn (d+1) t x y).run P w=r):(Op.equal t x y).run P w=r:=h 9999
theorem run_eql_bool{t:TypeId}(hd:P.underlying t=some .bool)(a b:Bool)(w:World):(Op.equal t (.bool a) (.bool b)).run P w=.ok (a==b) w:=
 iQ fun d=>by simp[Op.equalIn,run_underlying hd]
theorem zc{t e:TypeId}(hd:P.underlying t=some (.pointer e))(a b:Option Addr)(hab:a.isNone∨b.isNone)(w:World):(Op.equal t (.pointer a) (.pointer b)).run P w=.ok (a.isNone&&b.isNone) w:=
 iQ fun d=>by cases a<;>cases b<;>simp at hab<;>simp[Op.equalIn,run_underlying hd]
theorem vm{t e:TypeId}(hd:P.underlying t=some (.slice e))(a b:Option Addr)(n c n' c':Nat)(hab:a.isNone∨b.isNone)(w:World):(Op.equal t (.slice a n c) (.slice b n' c')).run P w=.ok (a.isNone&&b.isNone) w:=
 iQ fun d=>by cases a<;>cases b<;>simp at hab<;>simp[Op.equalIn,run_underlying hd]
theorem ze{t e f:TypeId}(hd:P.underlying t=some (.map e f))(a b:Option Nat)(hab:a.isNone∨b.isNone)(w:World):(Op.equal t (.map a) (.map b)).run P w=.ok (a.isNone&&b.isNone) w:=
 iQ fun d=>by cases a<;>cases b<;>simp at hab<;>simp[Op.equalIn,run_underlying hd]
theorem Oh{kd:BK}{op:BinOp}{x y v:Value}{t:TypeId}{d:TypeDesc}(hd:P.underlying t=some d)(hk:yo d=kd)(h:gA kd op x y=some v)(w:World):
  (binOp op t x y).run P w=.ok v w:=by
 cases x<;>simp only[gA]at h<;>try (simp at h;done)
 case int k a=>
  cases y<;>simp only at h<;>try (simp at h;done)
  rename_i k' b
  by_cases hs:op=.shl
  ·subst hs
   simp only at h
   split at h
   ·simp at h
   ·simp only[Option.some.injEq]at h;subst h;rename_i hb;simp[binOp,Op.shift,hb]
  by_cases hs':op=.shr
  ·subst hs'
   simp only at h
   split at h
   ·simp at h
   ·simp only[Option.some.injEq]at h;subst h;rename_i hb;simp[binOp,Op.shift,hb]
  have h2:(if k=k' then kD op k a b else none)=some v:=by
   cases op<;>first|exact h|exact absurd rfl hs|exact absurd rfl hs'
  split at h2
  ·rename_i e;subst e;exact MA h2 w ⟨hs,hs'⟩
  ·simp at h2
 case bool a=>
  split at h<;>simp only[Option.some.injEq,reduceCtorEq]at h
  all_goals
   subst h
   have:d=.bool:=by cases d<;>simp_all[yo]
   subst this
   simp[binOp,run_eql_bool hd]
 case string a=>
  split at h<;>simp only[Option.some.injEq,reduceCtorEq]at h
  all_goals
   subst h
   first|rfl|(simp only[binOp,Op.stringOp];rfl)
 case pointer a=>
  split at h<;>try (simp at h;done)
  all_goals
   have:∃e,d=.pointer e:=by cases d<;>simp_all[yo]
   obtain⟨e,rfl⟩:=this
   split at h<;>simp only[Option.some.injEq,reduceCtorEq]at h
   subst h
   rename_i bb hab
   simp[binOp,zc hd _ _ hab]
 case slice a n c=>
  split at h<;>try (simp at h;done)
  all_goals
   have:∃e,d=.slice e:=by cases d<;>simp_all[yo]
   obtain⟨e,rfl⟩:=this
   split at h<;>simp only[Option.some.injEq,reduceCtorEq]at h
   subst h
   rename_i bb _ _ hab
   simp[binOp,vm hd _ _ _ _ _ _ hab]
 case map a=>
  split at h<;>try (simp at h;done)
  all_goals
   have:∃e f,d=.map e f:=by cases d<;>simp_all[yo]
   obtain⟨e,f,rfl⟩:=this
   split at h<;>simp only[Option.some.injEq,reduceCtorEq]at h
   subst h
   rename_i bb hab
   simp[binOp,ze hd _ _ hab]
theorem Db{kd:BK}{op:BinOp}{x y v:Value}{t:TypeId}{ox oy:Operand}(h:gA kd op x y=some v):eqGuard op t ox oy x y=pure ():=by
 cases x<;>simp[gA]at h<;>cases op<;>rfl
theorem ae.run{kd:BK}{op:BinOp}{x y:Value}{k:Value→Prop}(h:ae kd op x y k)(w:World){t:TypeId}{d:TypeDesc}{ox oy:Operand}(hd:P.underlying t=some d)(hk:yo d=kd):
  ∃v,(do eqGuard op t ox oy x y;binOp op t x y:Sem Value).run P w=.ok v w∧k v:=by
 obtain⟨v,hv,hkv⟩:=h
 refine⟨v,?_,hkv⟩
 rw[Sem.run_bind,Db hv]
 simp only[Sem.run_pure,Result.andThen_ok]
 exact Oh hd hk hv w
theorem Un.run{op:UnOp}{x:Value}{k:Value→Prop}(h:Un op x k)(w:World):∃v,(Op.unary op x).run P w=.ok v w∧k v:=by
 obtain⟨v,hv,hk⟩:=h
 refine⟨v,?_,hk⟩
 cases op<;>cases x<;>simp[ZV]at hv<;>subst hv
 all_goals first|(simp[Op.unary,Op.intArith];done)|rfl
theorem bL.run{kd:IntKind}{x:Value}{k:Value→Prop}(h:bL kd x k)(w:World){src dst:TypeId}{ds dd:TypeDesc}(hs:P.underlying src=some ds)(hd:P.underlying dst=some dd)(hk:dd=.int kd):
  ∃v,(convert src dst x).run P w=.ok v w∧k v:=by
 obtain⟨j,n,rfl,hkv⟩:=h
 subst hk
 refine⟨_,?_,hkv⟩
 simp only[convert,Sem.run_bind,run_underlying hs,run_underlying hd,Result.andThen_ok]
 cases ds<;>rfl
theorem aa.run{off:Nat}{x:Value}{k:Value→Prop}(h:aa off x k)(w:World){s:TypeId}{fs:Array Field}{f:Nat}{fl:Field}{i:TypeInfo}(hs:P.underlying s=some (.struct fs))(hf:fs[f]? =some fl)
 (hi:P.info? fl.type=some i)(h0:i.size≠0)(ho:fl.offset=off):∃v,(Instr.fieldAt s x f).run P w=.ok v w∧k v:=by
 obtain⟨b,o,rfl,hk⟩:=h
 refine⟨_,?_,hk⟩
 subst ho
 simp[Instr.fieldAt,run_underlying hs,hf,Instr.sureAddr,fieldPlace,run_sizeOf hi,h0,Addr.add_lit]
theorem Bb.run{off:Nat}{x:Value}{k:Value→Prop}(h:Bb off x k)(w:World){s:TypeId}{fs:Array Field}{f:Nat}{fl:Field}{d:TypeDesc}(hs:P.underlying s=some (.struct fs))(hf:fs[f]? =some fl)
 (hd:P.underlying fl.type=some d)(ha:cO d=false)(ho:fl.offset=off):∃v,(Instr.field s x f).run P w=.ok v w∧k v:=by
 obtain⟨cs,v,rfl,hc,hk⟩:=h
 refine⟨v,?_,hk⟩
 subst ho
 simp[Instr.field,run_underlying hs,hf,asAgg,part,nx hd,ha,hc]
theorem RU.run{off n:Nat}{x:Value}{k:Value→Prop}(h:RU off n x k)(w:World){s:TypeId}{fs:Array Field}{f:Nat}{fl:Field}{d:TypeDesc}{i:TypeInfo}(hs:P.underlying s=some (.struct fs))(hf:fs[f]? =some fl)
 (hd:P.underlying fl.type=some d)(ha:cO d=true)(hi:P.info? fl.type=some i)(hn:i.size=n)(ho:fl.offset=off):∃v,(Instr.field s x f).run P w=.ok v w∧k v:=by
 obtain⟨cs,rfl,hk⟩:=h
 refine⟨_,?_,hk⟩
 subst ho;subst hn
 simp[Instr.field,run_underlying hs,hf,asAgg,part,nx hd,ha,run_sizeOf hi]
theorem ah.run{size:Nat}{x ix:Value}{k:Value→Prop}(h:ah size x ix k)(w:World){t e:TypeId}{i:TypeInfo}(ht:P.underlying t=some (.slice e))(hi:P.info? e=some i)(hn:i.size=size):
  ∃v,(Instr.indexAt t x ix).run P w=.ok v w∧k v:=by
 obtain⟨b,o,n,c,kd,j,rfl,rfl,h0,h1,hk⟩:=h
 refine⟨_,?_,hk⟩
 subst hn
 simp[Instr.indexAt,run_underlying ht,asIntOf,h0,h1,run_sizeOf hi,Addr.add_lit]
theorem AS.run{len size:Nat}{x ix:Value}{k:Value→Prop}(h:AS len size x ix k)(w:World){t e:TypeId}{i:TypeInfo}(ht:P.underlying t=some (.array len e))(hi:P.info? e=some i)(hn:i.size=size):
  ∃v,(Instr.indexAt t x ix).run P w=.ok v w∧k v:=by
 obtain⟨b,o,kd,j,rfl,rfl,h0,h1,hk⟩:=h
 refine⟨_,?_,hk⟩
 subst hn
 simp[Instr.indexAt,run_underlying ht,asIntOf,h0,h1,run_sizeOf hi,Addr.add_lit,Instr.sureAddr]
theorem gh.run{size:Nat}{x:Value}{lo hi:Option Value}{k:Value→Prop}(h:gh size x lo hi k)(w:World){t e:TypeId}{i:TypeInfo}(ht:P.underlying t=some (.slice e))(hi':P.info? e=some i)(hn:i.size=size):
  ∃v,(Instr.sliceAt t x lo hi none).run P w=.ok v w∧k v:=by
 obtain⟨a,n,c,l,hh,rfl,hl,qk,h0,h1,h2,hk⟩:=h
 refine⟨_,?_,hk⟩
 subst hn
 have bl:∀(kk:IntKind) (z:Int) (y:Nat) (cd:BoundsCode),0≤z→z≤y→(Instr.sliceBound (.int kk z) y cd).run P w=.ok z.toNat w:=by
  intro kk z y cd a1 a2
  simp[Instr.sliceBound,asIntOf,a1,a2]
 have jW:∀(m l:Nat),(if m=l then a else a.map (·.add (l*i.size)))=(if m=l then a else a.map fun x=>x.add (l*i.size)):=fun _ _=>rfl
 have e1:l≤((hh.toNat:Nat):Int):=by omega
 cases lo with
 |none=>
  simp only[Ql,Option.some.injEq]at hl
  subst hl
  cases hi with
  |none=>
   simp only[IF,Option.some.injEq]at qk
   subst qk
   simp[Instr.sliceAt,run_underlying ht,Instr.slice,Instr.sliceBounds,run_sizeOf hi']
  |some v=>
   cases v<;>simp only[IF,reduceCtorEq,Option.some.injEq]at qk
   subst qk
   simp[Instr.sliceAt,run_underlying ht,Instr.slice,Instr.sliceBounds,run_sizeOf hi',bl _ _ c .sliceAcap (by omega) h2]
 |some vl=>
  cases vl<;>simp only[Ql,reduceCtorEq,Option.some.injEq]at hl
  subst hl
  cases hi with
  |none=>
   simp only[IF,Option.some.injEq]at qk
   subst qk
   have:=bl ‹_› _ n .sliceB h0 h1
   simp[Instr.sliceAt,run_underlying ht,Instr.slice,Instr.sliceBounds,run_sizeOf hi',this]
  |some v=>
   cases v<;>simp only[IF,reduceCtorEq,Option.some.injEq]at qk
   subst qk
   rename_i k1 n1 k2 n2
   have b1:=bl k2 n2 c .sliceAcap (by omega) h2
   have b2:=bl k1 n1 n2.toNat .sliceB h0 (by omega)
   simp[Instr.sliceAt,run_underlying ht,Instr.slice,Instr.sliceBounds,run_sizeOf hi',b1,b2]
theorem Ext.run{i:Nat}{x:Value}{k:Value→Prop}(h:Ext i x k)(w:World):∃v,(Instr.extract x i).run P w=.ok v w∧k v:=by
 obtain⟨vs,v,rfl,hv,hk⟩:=h
 exact⟨v,by simp[Instr.extract,hv],hk⟩
theorem aG.run{x:Value}{k:Value→Prop}(h:aG x k)(w:World){t e ty:TypeId}(ht:P.underlying t=some (.slice e)):∃v,(Builtin.len_ #[t] ty #[x]).run P w=.ok v w∧k v:=by
 obtain⟨a,n,c,rfl,hk⟩:=h
 exact⟨_,by simp[Builtin.len_,run_underlying ht,goInt],hk⟩
theorem aY{w:World}(hw:Own g H w){b:Nat}{es:Array MapEntry}{clock:Nat}(hm:(b,Obj.map es clock)∈H):(getObj b).run P w=.ok (.map es clock) w:=by
 have:=hw.has _ hm
 simp only at this
 simp[getObj,Sem.run,this]
theorem yw.run{x:Value}{k:Value→Prop}(h:yw H x k){w:World}(hw:Own g H w){t e e' ty:TypeId}(ht:P.underlying t=some (.map e e')):∃v,(Builtin.len_ #[t] ty #[x]).run P w=.ok v w∧k v:=by
 obtain⟨m,rfl,⟨rfl,hk⟩|⟨b,es,clock,rfl,hm,hk⟩⟩:=h
 ·exact⟨_,by simp[Builtin.len_,run_underlying ht,goInt],hk⟩
 ·exact⟨_,by simp[Builtin.len_,run_underlying ht,goInt,aY hw hm],hk⟩
end
end Go.Sx
namespace Go.Sx
open Go
section
variable {P:Program} {g:Gh} {H:Hp} {K:Value→Hp→Prop} {KP:List PanicEntry→Hp→Prop}
theorem Cells.run{w:World}(hw:Own g H w){base:Option Addr}{size n cap:Nat}{cs:Array Value}(h:Cells H base (n*size) cs):
  (Builtin.firstCells size n (.slice base n cap)).run P w=.ok cs w:=by
 cases base with
 |none=>simp only[Cells]at h;subst h;simp[Builtin.firstCells]
 |some a=>
  rcases h with⟨hn,rfl⟩|⟨h0,c,T,fz,hm,hs,rfl⟩
  ·simp only[Builtin.firstCells,hn];rfl
  obtain⟨b,o,sp⟩:=a
  simp only at h0 hm hs;subst h0
  simp only[Builtin.firstCells,jN hw hm _ _ hs]
theorem App.run{elem size bytes:Nat}{zero:Value}{s x:Value}{k:Value→Hp→Prop}(h:App P elem size bytes zero H s x k){w:World}(hw:Own g H w){t t' ty:TypeId}{i:TypeInfo}
 (ht:P.underlying t=some (.slice elem))(ht':∃e,P.underlying t'=some (.slice e))(hi:P.info? elem=some i)(hz:i.zero=some zero)(hn:i.size=size)(hb:i.bytes=bytes):
  ∃v w' H',(Builtin.append_ #[t,t'] ty #[s,x]).run P w=.ok v w'∧Own g H' w'∧k v H':=by
 obtain⟨base,n,cap,xb,m,xc,olds,news,rfl,rfl,hco,Yd,QE,hso,hone,hfit,hgrow⟩:=h
 obtain⟨e',ht'⟩:=ht'
 subst hn;subst hb
 by_cases hc:n+m≤cap
 ·have hk:=hfit hc
  have hnew:=Cells.run (P:=P) (cap:=xc) hw Yd
  cases base with
  |none=>
   refine⟨_,w,H,?_,hw,hk⟩
   simp[Builtin.append_,run_underlying ht,run_underlying ht',run_sizeOf hi,Builtin.lenOf,hc,hnew]
  |some a=>
   obtain⟨c,T,H',h0,hs,hu,hk⟩:=hk
   obtain⟨b,o,sp⟩:=a
   simp only at h0 hu hs;subst h0
   obtain⟨w',hr,ho⟩:=fV (P:=P) (o+n*i.size) news.toList 0 c H H' w hw (by simpa using hu) hone (by simp;omega)
   refine⟨_,w',H',?_,ho,hk⟩
   simp[Builtin.append_,run_underlying ht,run_underlying ht',run_sizeOf hi,Builtin.lenOf,hc,hnew,Addr.add_lit,hr]
 ·obtain⟨adl,h63,hk⟩:=hgrow (by omega)
  have jz:=hw.drew
  have hnew:=Cells.run (P:=P) (cap:=xc) jz Yd
  have hold:=Cells.run (P:=P) (cap:=cap) jz hco
  have hnx:Builtin.nextslicecap (n+m) cap*i.bytes≤281474976710656:=growslice_fits (by omega) adl
  have adS:¬(281474976710656<Builtin.nextslicecap (n+m) cap*i.bytes):=by omega
  have adR:¬(9223372036854775807<((n:Int)+(m:Int))):=by omega
  obtain⟨lT,tO,hkk⟩:=hk (grownCap w (n+m) cap elem) (by simp only[grownCap,Question.cut];omega) _ jz.fresh
  refine⟨_,_,_,?_,tO _ _ (jz.alloc _),hkk⟩
  ·simp[Builtin.append_,run_underlying ht,run_underlying ht',sizeOf,typeInfo,zeroValue,hi,hz,Builtin.lenOf,hc,adR,adS,Question.forced,hnew,hold,newRow,grownCap]
theorem cc.run{elem size bytes:Nat}{zero:Value}{l c:Value}{k:Value→Hp→Prop}(h:cc elem size bytes zero H l c k){w:World}(hw:Own g H w){t:TypeId}{i:TypeInfo}
 (ht:P.underlying t=some (.slice elem))(hi:P.info? elem=some i)(hz:i.zero=some zero)(hn:i.size=size)(hb:i.bytes=bytes):
  ∃v w' H',(Instr.makeSlice t l c).run P w=.ok v w'∧Own g H' w'∧k v H':=by
 obtain⟨kl,kc,ln,cn,rfl,rfl,hlc,bE,hby,hk⟩:=h
 subst hn;subst hb
 refine⟨_,_,_,?_,hw.alloc _,hk _ hw.fresh⟩
 have e1:IntKind.i64.wrap (ln:Int)=ln:=IntWalk.i64_in _ (by omega)
 have e2:IntKind.i64.wrap (cn:Int)=cn:=IntWalk.i64_in _ (by omega)
 have e3:¬((i.bytes:Int)*(cn:Int)>281474976710656):=by
  have:((cn*i.bytes:Nat):Int)≤281474976710656:=by omega
  rw[Int.mul_comm];push_cast at this;omega
 have e4:¬((cn:Int)<ln):=by omega
 by_cases h0:cn*i.size=0
 ·simp[Instr.makeSlice,run_underlying ht,asInt,asIntOf,typeInfo,hi,e1,e2,e3,e4,sizeOf,zeroValue,hz,newRow,madeCells,h0,show¬((cn:Int)<0)from by omega,show¬((ln:Int)<0)from by omega]
  have:Array.range 0=#[]:=rfl
  simp[this]
 ·simp[Instr.makeSlice,run_underlying ht,asInt,asIntOf,typeInfo,hi,e1,e2,e3,e4,sizeOf,zeroValue,hz,newRow,madeCells,h0,show¬((cn:Int)<0)from by omega,show¬((ln:Int)<0)from by omega]
theorem G3.run{m:Value}{es:Array MapEntry}(h:G3 H m es){w:World}(hw:Own g H w):
  (m=.map none∧es=#[])∨∃b clock,m=.map (some b)∧(getObj b).run P w=.ok (.map es clock) w:=by
 rcases h with h|⟨b,clock,hm,hb⟩
 ·exact .inl h
 ·exact .inr ⟨b,clock,hm,aY hw hb⟩
theorem run_checkKey(e:Bool){t:TypeId}{d:TypeDesc}(hd:P.underlying t=some d)(hp:plainKey d=true)(v:Value)(w:World):(Instr.checkKey e 10000 t v).run P w=.ok () w:=by
 have:∀n,(Instr.checkKey e (n+1) t v).run P w=.ok () w:=fun n=>by
  simp only[Instr.checkKey,Sem.run_bind,run_underlying hd,Result.andThen_ok]
  cases d<;>first|(simp[plainKey]at hp;done)|rfl
 exact this 9999
theorem run_findKey{t:TypeId}{d:TypeDesc}(hd:P.underlying t=some d){key:Value}{es:List MapEntry}{r:Option (Nat×Value)}(h:Instr.findNow d key es 0=some r)(w:World):
  (Instr.findKey t key es).run P w=.ok r w:=by
 simp[Instr.findKey,run_underlying hd,h]
theorem qi.run{kd:TypeDesc}{zero:Value}{ok:Bool}{m key:Value}{k:Value→Prop}(h:qi kd zero ok H m key k){w:World}(hw:Own g H w){t kt e:TypeId}{i:TypeInfo}
 (ht:P.underlying t=some (.map kt e))(hk:P.underlying kt=some kd)(hp:plainKey kd=true)(hi:P.info? e=some i)(hz:i.zero=some zero):
  ∃v,(Instr.lookup t m key ok).run P w=.ok v w∧k v:=by
 obtain⟨es,r,hm,hf,hkv⟩:=h
 have fo:=fun b=>run_checkKey (P:=P) b hk hp key w
 have jF:=run_findKey (P:=P) hk hf w
 refine⟨_,?_,hkv⟩
 rcases hm.run (P:=P) hw with⟨rfl,rfl⟩|⟨b,clock,rfl,hg⟩
 ·cases r with
  |none=>cases ok<;>simp[Instr.lookup,run_underlying ht,fo,jF,eZ hi hz]
  |some x=>obtain⟨j,v⟩:=x;cases ok<;>simp[Instr.lookup,run_underlying ht,fo,jF]
 ·cases r with
  |none=>cases ok<;>simp[Instr.lookup,run_underlying ht,fo,jF,eZ hi hz,hg]
  |some x=>obtain⟨j,v⟩:=x;cases ok<;>simp[Instr.lookup,run_underlying ht,fo,jF,hg]
theorem bV{w:World}(hw:Own g H w){b:Nat}{es:Array MapEntry}{clock:Nat}(es':Array MapEntry)(clock':Nat){H':Hp}(hu:cJ b (.map es clock) (.map es' clock') H H'):
  ∃w',(setObj b (.map es' clock')).run P w=.ok () w'∧Own g H' w':=by
 have hm:=hw.has _ hu.mem
 simp only at hm
 refine⟨{w with heap:=w.heap.setIfInBounds b (.map es' clock')},by simp[setObj,Sem.run,hm],?_⟩
 have hlt:=hw.lt hu.mem
 refine hw.cz hu rfl rfl rfl ?_ ?_
 ·simp only at hlt;simp[hlt]
 ·intro c hc;rw[Array.getElem?_setIfInBounds,if_neg (fun e=>hc (Eq.symm e))]
theorem gi.run{kd:TypeDesc}{m key val:Value}{k:Hp→Prop}(h:gi kd H m key val k){w:World}(hw:Own g H w){t kt e:TypeId}
 (ht:P.underlying t=some (.map kt e))(hk:P.underlying kt=some kd)(hp:plainKey kd=true):
  ∃w' H',(Instr.mapUpdate t m key val).run P w=.ok () w'∧Own g H' w'∧k H':=by
 obtain⟨b,es,clock,r,rfl,hf,hr⟩:=h
 have fo:=fun b=>run_checkKey (P:=P) b hk hp key w
 have jF:=run_findKey (P:=P) hk hf w
 cases r with
 |none=>
  obtain⟨H',hu,hkk⟩:=hr
  obtain⟨w',hs,ho⟩:=bV (P:=P) hw _ _ hu
  refine⟨w',H',?_,ho,hkk⟩
  simp[Instr.mapUpdate,run_underlying ht,aY hw hu.mem,fo,jF,hs]
 |some x=>
  obtain⟨j,v⟩:=x
  obtain⟨hsame,hj,H',hu,hkk⟩:=hr
  obtain⟨w',hs,ho⟩:=bV (P:=P) hw _ _ hu
  refine⟨w',H',?_,ho,hkk⟩
  have hsb:=hsame es[j] (Array.getElem?_eq_getElem hj)
  simp[Instr.mapUpdate,run_underlying ht,aY hw hu.mem,fo,jF,hj,Instr.keyThatStays,hsb,hs]
theorem uF.run{kd:TypeDesc}{m key:Value}{k:Hp→Prop}(h:uF kd H m key k){w:World}(hw:Own g H w){t kt e ty:TypeId}{as:Array TypeId}(has:as[0]? =some t)
 (ht:P.underlying t=some (.map kt e))(hk:P.underlying kt=some kd)(hp:plainKey kd=true):
  ∃w' H',(Builtin.delete_ as ty #[m,key]).run P w=.ok (.tuple #[]) w'∧Own g H' w'∧k H':=by
 have fo:=fun b=>run_checkKey (P:=P) b hk hp key w
 rcases h with⟨rfl,hkk⟩|⟨b,es,clock,r,rfl,hf,hr⟩
 ·exact⟨w,H,by simp[Builtin.delete_,has,run_underlying ht,fo],hw,hkk⟩
 ·have jF:=run_findKey (P:=P) hk hf w
  cases r with
  |none=>
   obtain⟨hm,hkk⟩:=hr
   have hu:∃H',cJ b (.map es clock) (.map es clock) H H'∧H'=H:=by
    clear hkk hf jF hw
    induction H with
    |nil=>simp at hm
    |cons x R ih=>
     rcases List.mem_cons.1 hm with e|hm'
     ·subst e;exact⟨_,.head _,rfl⟩
     ·obtain⟨H',u,rfl⟩:=ih hm';exact⟨_,.tail u,rfl⟩
   obtain⟨H',hu,rfl⟩:=hu
   obtain⟨w',hs,ho⟩:=bV (P:=P) hw _ _ hu
   exact⟨w',_,by simp[Builtin.delete_,has,run_underlying ht,aY hw hm,fo,jF,hs],ho,hkk⟩
  |some x=>
   obtain⟨j,v⟩:=x
   obtain⟨H',hu,hkk⟩:=hr
   obtain⟨w',hs,ho⟩:=bV (P:=P) hw _ _ hu
   exact⟨w',_,by simp[Builtin.delete_,has,run_underlying ht,aY hw hu.mem,fo,jF,hs],ho,hkk⟩
theorem Al{kd:TypeDesc}(h:cO kd=true)(key:Value)(es:List MapEntry)(i:Nat):Instr.findNow kd key es i=if es=[]then some none else none:=by
 cases es with
 |nil=>rfl
 |cons e r=>
  simp only[Instr.findNow,reduceCtorEq,if_false]
  cases kd<;>simp[cO]at h<;>rfl
theorem my{kt:TypeId}{key:Value}:∀{es:List MapEntry} {i:Nat} {r:Option (Nat×Value)},lU P kt key es i r→∀w,(Instr.findAsking kt key es i).run P w=.ok r w
 | [],i,r,h,w=>by simp only[lU]at h;subst h;rfl
 |e::es,i,r,h,w=>by
  obtain⟨b,he,h1,h2⟩:=h
  simp only[Instr.findAsking,Sem.run_bind,he w,Result.andThen_ok]
  cases b
  ·simp only[Bool.false_eq_true,if_false];exact my (h2 rfl) w
  ·simp only[if_true,h1 rfl,Sem.run_pure]
theorem gC{t:TypeId}{d:TypeDesc}(hd:P.underlying t=some d)(ha:cO d=true){key:Value}{es:List MapEntry}{r:Option (Nat×Value)}(h:lU P t key es 0 r)(w:World):
  (Instr.findKey t key es).run P w=.ok r w:=by
 simp only[Instr.findKey,Sem.run_bind,run_underlying hd,Result.andThen_ok,Al ha]
 cases es with
 |nil=>simp only[lU]at h;subst h;simp
 |cons e es=>simp only[reduceCtorEq,if_false];exact my h w
theorem kL.run{zero:Value}{ok:Bool}{m key:Value}{k:Value→Prop}{t kt e:TypeId}{kd:TypeDesc}(h:kL P kt zero ok H m key k){w:World}(hw:Own g H w){i:TypeInfo}
 (ht:P.underlying t=some (.map kt e))(hk:P.underlying kt=some kd)(hp:cO kd=true)(hi:P.info? e=some i)(hz:i.zero=some zero):
  ∃v,(Instr.lookup t m key ok).run P w=.ok v w∧k v:=by
 obtain⟨es,r,hm,hc,hf,hkv⟩:=h
 have fo:=fun b=>hc b w
 have jF:=gC (P:=P) hk hp hf w
 refine⟨_,?_,hkv⟩
 rcases hm.run (P:=P) hw with⟨rfl,rfl⟩|⟨b,clock,rfl,hg⟩
 ·cases r with
  |none=>cases ok<;>simp[Instr.lookup,run_underlying ht,fo,jF,eZ hi hz]
  |some x=>obtain⟨j,v⟩:=x;cases ok<;>simp[Instr.lookup,run_underlying ht,fo,jF]
 ·cases r with
  |none=>cases ok<;>simp[Instr.lookup,run_underlying ht,fo,jF,eZ hi hz,hg]
  |some x=>obtain⟨j,v⟩:=x;cases ok<;>simp[Instr.lookup,run_underlying ht,fo,jF,hg]
theorem lJ.run{m key val:Value}{k:Hp→Prop}{t kt e:TypeId}{kd:TypeDesc}(h:lJ P kt H m key val k){w:World}(hw:Own g H w)
 (ht:P.underlying t=some (.map kt e))(hk:P.underlying kt=some kd)(hp:cO kd=true):
  ∃w' H',(Instr.mapUpdate t m key val).run P w=.ok () w'∧Own g H' w'∧k H':=by
 obtain⟨b,es,clock,r,rfl,hc,hf,hr⟩:=h
 have fo:=fun b=>hc b w
 have jF:=gC (P:=P) hk hp hf w
 cases r with
 |none=>
  obtain⟨H',hu,hkk⟩:=hr
  obtain⟨w',hs,ho⟩:=bV (P:=P) hw _ _ hu
  refine⟨w',H',?_,ho,hkk⟩
  simp[Instr.mapUpdate,run_underlying ht,aY hw hu.mem,fo,jF,hs]
 |some x=>
  obtain⟨j,v⟩:=x
  obtain⟨hsame,hj,H',hu,hkk⟩:=hr
  obtain⟨w',hs,ho⟩:=bV (P:=P) hw _ _ hu
  refine⟨w',H',?_,ho,hkk⟩
  have hsb:=hsame es[j] (Array.getElem?_eq_getElem hj)
  simp[Instr.mapUpdate,run_underlying ht,aY hw hu.mem,fo,jF,hj,Instr.keyThatStays,hsb,hs]
theorem cJ.same{b:Nat}{o:Obj}{H:Hp}(hm:(b,o)∈H):cJ b o o H H:=by
 induction H with
 |nil=>simp at hm
 |cons x R ih=>
  rcases List.mem_cons.1 hm with e|hm'
  ·subst e;exact .head _
  ·exact .tail (ih hm')
theorem qh.run{m key:Value}{k:Hp→Prop}{t kt e ty:TypeId}{kd:TypeDesc}{as:Array TypeId}(h:qh P kt H m key k){w:World}(hw:Own g H w)(has:as[0]? =some t)
 (ht:P.underlying t=some (.map kt e))(hk:P.underlying kt=some kd)(hp:cO kd=true):
  ∃w' H',(Builtin.delete_ as ty #[m,key]).run P w=.ok (.tuple #[]) w'∧Own g H' w'∧k H':=by
 obtain⟨hc,h⟩:=h
 have fo:=fun b=>hc b w
 rcases h with⟨rfl,hkk⟩|⟨b,es,clock,r,rfl,hf,hr⟩
 ·exact⟨w,H,by simp[Builtin.delete_,has,run_underlying ht,fo],hw,hkk⟩
 ·have jF:=gC (P:=P) hk hp hf w
  cases r with
  |none=>
   obtain⟨hm,hkk⟩:=hr
   obtain⟨w',hs,ho⟩:=bV (P:=P) hw _ _ (cJ.same hm)
   exact⟨w',_,by simp[Builtin.delete_,has,run_underlying ht,aY hw hm,fo,jF,hs],ho,hkk⟩
  |some x=>
   obtain⟨j,v⟩:=x
   obtain⟨H',hu,hkk⟩:=hr
   obtain⟨w',hs,ho⟩:=bV (P:=P) hw _ _ hu
   exact⟨w',_,by simp[Builtin.delete_,has,run_underlying ht,aY hw hu.mem,fo,jF,hs],ho,hkk⟩
theorem Zg.run{x:Value}{k:Value→Hp→Prop}(h:Zg H x k){w:World}(hw:Own g H w){t kt e:TypeId}(ht:P.underlying t=some (.map kt e)):
  ∃v w' H',(Instr.range t x).run P w=.ok v w'∧Own g H' w'∧k v H':=by
 rcases h with⟨rfl,hk⟩|⟨m,es,clock,rfl,hm,hk⟩
 ·refine⟨_,_,_,?_,hw.alloc _,hk _ hw.fresh⟩
  simp[Instr.range,run_underlying ht]
 ·refine⟨_,_,_,?_,hw.alloc _,hk _ hw.fresh⟩
  simp[Instr.range,run_underlying ht,aY hw hm]
theorem lM{w:World}(hw:Own g H w){b:Nat}{mo:Option Nat}{since last:Nat}{seen:Array Nat}(hm:(b,Obj.mapIter mo since seen last)∈H):(getObj b).run P w=.ok (.mapIter mo since seen last) w:=by
 have:=hw.has _ hm
 simp only at this
 simp[getObj,Sem.run,this]
theorem r4{w:World}(hw:Own g H w){b:Nat}{mo mo':Option Nat}{since last since' last':Nat}{seen seen':Array Nat}{H':Hp}(hu:cJ b (.mapIter mo since seen last) (.mapIter mo' since' seen' last') H H'):
  ∃w',(setObj b (.mapIter mo' since' seen' last')).run P w=.ok () w'∧Own g H' w':=by
 have hm:=hw.has _ hu.mem
 simp only at hm
 refine⟨{w with heap:=w.heap.setIfInBounds b (.mapIter mo' since' seen' last')},by simp[setObj,Sem.run,hm],?_⟩
 have hlt:=hw.lt hu.mem
 refine hw.cz hu rfl rfl rfl ?_ ?_
 ·simp only at hlt;simp[hlt]
 ·intro c hc;rw[Array.getElem?_setIfInBounds,if_neg (fun e=>hc (Eq.symm e))]
theorem OO.run{it:Value}{k:Value→Prop}(h:OO H it k){w:World}(hw:Own g H w):∃v,(Instr.entry it).run P w=.ok v w∧k v:=by
 obtain⟨b,m,since,seen,stamp,clock,es,e,rfl,hb,hs,hm,hf,hk⟩:=h
 refine⟨_,?_,hk⟩
 simp[Instr.entry,lM (P:=P) hw hb,hs,aY (P:=P) hw hm,hf]
theorem r5(n:Nat)(hn:0<n){w:World}:∃i w',(choose (.mapNext n)).run P w=.ok i w'∧i<n∧(w'=w∨w'=w.drew):=by
 by_cases h:n≤1
 ·exact⟨0,w,by simp[choose,Sem.run,Question.forced,h],hn,.inl rfl⟩
 ·exact⟨_,_,by simp only[choose,Sem.run,Question.forced,h,decide_false,Bool.false_eq_true,if_false];rfl,Nat.mod_lt _ hn,.inr rfl⟩
theorem Ws.run{it:Value}{k:Value→Hp→Prop}(h:Ws H it k){w:World}(hw:Own g H w){ty:TypeId}:
  ∃v w' H',(Instr.next it false ty).run P w=.ok v w'∧Own g H' w'∧k v H':=by
 obtain⟨b,mo,since,seen,last,rfl,hb,h⟩:=h
 have hgi:=lM (P:=P) hw hb
 cases mo with
 |none=>exact⟨_,w,H,by simp[Instr.next,hgi],hw,h⟩
 |some m=>
  obtain⟨es,clock,hm,Nl,zZ,XF⟩:=h
  have hgm:=aY (P:=P) hw hm
  have XS:(!seen.isEmpty&& !es.isEmpty&&es.all (fun e=>decide (e.born≥last)))=false:=by
   cases he:es.isEmpty
   ·have hne:es≠#[]:=by intro e;rw[e]at he;simp at he
    have:es.all (fun e=>decide (e.born≥last))=false:=by
     rw[←Bool.not_eq_true,Array.all_eq_true]
     intro aK
     have h0:0<es.size:=Array.size_pos_iff.2 hne
     have:=aK 0 h0
     have h2:=(Nl es[0] (by simp)).2
     simp only[ge_iff_le,decide_eq_true_eq]at this
     omega
    rw[this];simp
   ·simp
  have hold:((es.filter fun e=> !seen.contains e.born).filter fun e=>decide (e.born<since))=es.filter fun e=> !seen.contains e.born:=by
   rw[Array.filter_eq_self]
   intro e he
   have:=(Array.mem_filter.1 he).1
   exact decide_eq_true (Nl e (by simpa using this)).1
  have hnew:((es.filter fun e=> !seen.contains e.born).filter fun e=>decide (e.born≥since))=#[]:=by
   rw[Array.filter_eq_empty_iff]
   intro e he
   have:=(Array.mem_filter.1 he).1
   have:=(Nl e (by simpa using this)).1
   simp only[ge_iff_le,decide_eq_true_eq];omega
  generalize hleft:(es.filter fun e=> !seen.contains e.born)=left at hold hnew
  have hrun:∀(rest:Sem Value),(Instr.next (.pointer (some ⟨b,0,none⟩)) false ty).run P w=((choose (.mapNext (((if left.isEmpty then#[none]else#[])++left.map some).size))).run P w).andThen fun i w=>(Sem.run P (match((if left.isEmpty then#[none]else#[])++left.map some)[i]? with
    |some (some e)=>do setObj b (.mapIter (some m) since (seen.push e.born) clock);pure (.tuple #[.bool true,e.key,e.val])
    |some none=>pure (.tuple #[.bool false])
    |none=>stuck "Next: no such candidate" :Sem Value) w):=by
   intro _
   simp only[Instr.next,Sem.run_bind,hgi,Result.andThen_ok,hgm,XS,Bool.false_eq_true,if_false,hleft,hold,hnew,Array.append_empty,Sem.run_pure]
   rfl
  rw[hrun (pure undef)]
  by_cases UW:left=#[]
  ·subst UW
   simp only[Array.isEmpty_empty,if_true,Array.map_empty,Array.append_empty]
   refine⟨_,w,H,?_,hw,XF fun e he=>?_⟩
   ·simp[choose,Sem.run,Question.forced]
   ·have:=Array.filter_eq_empty_iff.1 hleft e (by simpa using he)
    simpa using this
  ·have hne:left.isEmpty=false:=by simpa using UW
   have hpos:0<left.size:=Array.size_pos_iff.2 UW
   simp only[hne,Bool.false_eq_true,if_false,Array.empty_append,Array.size_map]
   obtain⟨i,w1,hc,hi,jz⟩:=r5 (P:=P) (w:=w) left.size hpos
   rw[hc]
   simp only[Result.andThen_ok]
   have gX:(left.map some)[i]? =some (some left[i]):=by simp[hi]
   simp only[gX]
   have hmem:left[i]∈es.filter fun e=> !seen.contains e.born:=by rw[hleft];exact Array.getElem_mem hi
   obtain⟨Wa,V9⟩:=Array.mem_filter.1 hmem
   obtain⟨H',hu,hk⟩:=zZ left[i] (by simpa using Wa) (by simpa using V9)
   have Cd:Own g H w1:=by rcases jz with rfl|rfl;exact hw;exact hw.drew
   obtain⟨w2,hs,nI⟩:=r4 (P:=P) Cd hu
   exact⟨_,w2,H',by simp[hs],nI,hk⟩
end
end Go.Sx
namespace Go.Sx
open Go
section
variable {P:Program} {g:Gh} {H:Hp} {K:Value→Hp→Prop} {KP:List PanicEntry→Hp→Prop}
def Zs(x:Value):Option Value:=
 match x with
 | .pointer (some a)=>some (.pointer (some a))
 | .func (.func f) a b=>some (.func (.func f) a b)
 | .iface t v=>some (.iface t v)
 |_=>none
def Nil(x:Value)(k:Value→Prop):Prop:=∃v,Zs x=some v∧k v
def PMk(fn:Fn)(a b:List Value)(k:Value→Prop):Prop:=k (.func fn a.toArray b.toArray)
def Build(P:Program)(t:TypeId)(parts:List (Nat×Value))(k:Value→Prop):Prop:=∃v,(∀w,(Instr.build t parts.toArray).run P w=.ok v w)∧k v
def jH(P:Program)(g:Gh)(o:Oper)(ρ:Operand→Value)(H:Hp)(k:Value→Prop):Prop:=
 ∃v,(∀w,Own g H w→(execOp ρ o).run P w=.ok (.value v) w)∧k v
def dO(P:Program)(t:TypeId):Option Nat:=match P.info? t with|some i=>some i.size|none=>none
def fu(P:Program)(t:TypeId):Option Value:=match P.info? t with|some i=>i.zero|none=>none
def um(P:Program)(t:TypeId):Option Nat:=match P.info? t with|some i=>some i.bytes|none=>none
def AY(P:Program)(g:Gh)(o:Oper)(ρ:Operand→Value)(H:Hp)(k:Value→Prop):Prop:=
 match o.op with
 | .move x=>k (ρ x)
 | .assign x=>k (ρ x)
 | .pick c a b=>aA (ρ c) (ρ a) (ρ b) k
 | .load t a=>
  match P.underlying t,dO P t with
  |some d,some n=>cond (cO d) (az n H (ρ a) k) (Ld H (ρ a) k)
  |_,_=>False
 | .nilCheck x=>Nil (ρ x) k
 | .binOp op t x y _=>
  match P.underlying t with
  |some d=>match yo d with
   | .other=>jH P g o ρ H k
   |bk=>ae bk op (ρ x) (ρ y) k
  |none=>False
 | .unOp op _ x=>Un op (ρ x) k
 | .convert s d x=>
  match P.underlying s,P.underlying d with
  |some _,some (.int kd)=>bL kd (ρ x) k
  |some (.slice e),some .string=>match P.underlying e with
   |some (.int .u8)=>j4 H (ρ x) k
   |_=>jH P g o ρ H k
  |_,_=>jH P g o ρ H k
 | .index t x i=>
  match P.underlying t with
  |some .string=>Tf (ρ x) (ρ i) k
  |_=>jH P g o ρ H k
 | .fieldAddr s x f=>
  match P.underlying s with
  |some (.struct fs)=>match fs[f]? with
   |some fl=>match dO P fl.type with
    |some (_+1)=>aa fl.offset (ρ x) k
    |_=>False
   |none=>False
  |_=>False
 | .field s x f=>
  match P.underlying s with
  |some (.struct fs)=>match fs[f]? with
   |some fl=>match P.underlying fl.type,dO P fl.type with
    |some d,some n=>cond (cO d) (RU fl.offset n (ρ x) k) (Bb fl.offset (ρ x) k)
    |_,_=>False
   |none=>False
  |_=>False
 | .indexAddr t x i=>
  match P.underlying t with
  |some (.slice e)=>match dO P e with
   |some n=>ah n (ρ x) (ρ i) k
   |none=>False
  |some (.array len e)=>match dO P e with
   |some n=>AS len n (ρ x) (ρ i) k
   |none=>False
  |_=>False
 | .slice t x lo hi none=>
  match P.underlying t with
  |some (.slice e)=>match dO P e with
   |some n=>gh n (ρ x) (lo.map ρ) (hi.map ρ) k
   |none=>False
  |_=>jH P g o ρ H k
 | .extract t i=>Ext i (ρ t) k
 | .lookup t m key ok=>
  match P.underlying t with
  |some (.map kt e)=>match P.underlying kt,fu P e with
   |some kd,some z=>cond (plainKey kd) (qi kd z ok H (ρ m) (ρ key) k) (cond (cO kd) (kL P kt z ok H (ρ m) (ρ key) k) (jH P g o ρ H k))
   |_,_=>False
  |_=>False
 | .makeFunc fn a b=>PMk fn (a.toList.map ρ) (b.toList.map ρ) k
 | .build t parts=>Build P t (parts.toList.map fun p=>(p.1,ρ p.2)) k
 | .makeInterface t x=>
  match P.underlying t with
  |some (.interface _)=>False
  |some _=>k (.iface t (ρ x))
  |none=>False
 | .call c=>
  match c.callee with
  | .builtin .len=>
   match c.args.toList,c.argTypes.toList with
   | [x],[t]=>match P.underlying t with
    |some (.slice _)=>aG (ρ x) k
    |some (.map _ _)=>yw H (ρ x) k
    |some .string=>Vt (ρ x) k
    |_=>jH P g o ρ H k
   |_,_=>False
  | .builtin .max=>match c.args.toList,c.argTypes.toList with
   | [x,y],[t,_]=>match P.underlying t with
    |some (.int _)=>Dl (ρ x) (ρ y) k
    |_=>jH P g o ρ H k
   |_,_=>jH P g o ρ H k
  | .builtin .min=>match c.args.toList,c.argTypes.toList with
   | [x,y],[t,_]=>match P.underlying t with
    |some (.int _)=>Zu (ρ x) (ρ y) k
    |_=>jH P g o ρ H k
   |_,_=>jH P g o ρ H k
  | .builtin _=>jH P g o ρ H k
  |_=>False
 |_=>jH P g o ρ H k
theorem mapList{α β:Type}(f:α→β)(a:Array α):(a.toList.map f).toArray=a.map f:=by rw[←Array.toList_map,Array.toArray_toList]
theorem Y8{α:Type}{a:Array α}{x:α}(h:a.toList=[x]):a=#[x]:=by cases a;simp_all
theorem AI{α:Type}{a:Array α}{x y:α}(h:a.toList=[x,y]):a=#[x,y]:=by cases a;simp_all
theorem Ld.fix{p:Value}{k:Value→Prop}(h:Ld H p k):∃v,k v∧Ld H p (· =v):=by
 obtain⟨b,off,c,T,fz,v,h1,h2,h3,hk⟩:=h;exact⟨v,hk,b,off,c,T,fz,v,h1,h2,h3,rfl⟩
theorem az.fix{n:Nat}{p:Value}{k:Value→Prop}(h:az n H p k):∃v,k v∧az n H p (· =v):=by
 obtain⟨b,off,c,T,fz,h1,h2,h3,hk⟩:=h;exact⟨_,hk,b,off,c,T,fz,h1,h2,h3,rfl⟩
theorem qi.fix{kd:TypeDesc}{zero:Value}{ok:Bool}{m key:Value}{k:Value→Prop}(h:qi kd zero ok H m key k):∃v,k v∧qi kd zero ok H m key (· =v):=by
 obtain⟨es,r,h1,h2,hk⟩:=h;exact⟨_,hk,es,r,h1,h2,rfl⟩
theorem yw.fix{x:Value}{k:Value→Prop}(h:yw H x k):∃v,k v∧yw H x (· =v):=by
 obtain⟨m,h1,⟨h2,hk⟩|⟨b,es,clock,h2,h3,hk⟩⟩:=h
 ·exact⟨_,hk,m,h1,.inl ⟨h2,rfl⟩⟩
 ·exact⟨_,hk,m,h1,.inr ⟨b,es,clock,h2,h3,rfl⟩⟩
theorem kL.fix{kt:TypeId}{zero:Value}{ok:Bool}{m key:Value}{k:Value→Prop}(h:kL P kt zero ok H m key k):∃v,k v∧kL P kt zero ok H m key (· =v):=by
 obtain⟨es,r,h1,h2,h3,hk⟩:=h;exact⟨_,hk,es,r,h1,h2,h3,rfl⟩
theorem C9{F:Value→ByteArray→Sem (ForInStep ByteArray)}(hF:∀(b:UInt8) s,F (.int .u8 b.toNat) s=pure (.yield (s.push b))){l:List UInt8}(s:ByteArray)(w:World):
  (forIn (l.map fun b=>Value.int .u8 b.toNat) s F).run P w=.ok (⟨s.data++l.toArray⟩:ByteArray) w:=by
 induction l generalizing s with
 |nil=>simp
 |cons b r ih=>
  simp only[List.map_cons,List.forIn_cons,hF,Sem.run_bind,Sem.run_pure,Result.andThen_ok]
  rw[ih]
  congr 1
  simp[ByteArray.push]
theorem j4.run{x:Value}{k:Value→Prop}(h:j4 H x k){w:World}(hw:Own g H w):∃v,(Conv.bytesToString x).run P w=.ok v w∧k v:=by
 obtain⟨base,n,c,bs,rfl,hc,hn,hk⟩:=h
 refine⟨_,?_,hk⟩
 cases base with
 |none=>
  simp only[Cells]at hc
  have:bs=[]:=by simpa using congrArg Array.size hc
  subst this;rfl
 |some a=>
  have:=Cells.run (P:=P) (size:=1) (cap:=c) hw (by rw[Nat.mul_one];exact hc)
  simp only[Builtin.firstCells,Nat.mul_one]at this
  simp only[Conv.bytesToString,Sem.run_bind,this,Result.andThen_ok]
  rw[List.forIn_toArray,C9 (P:=P) (l:=bs) (fun b s=>by simp)]
  have e:ByteArray.empty.data=#[]:=rfl
  simp[e]
theorem j4.fix{x:Value}{k:Value→Prop}(h:j4 H x k):∃v,k v∧j4 H x (· =v):=by
 obtain⟨base,n,c,bs,h1,h2,h3,hk⟩:=h;exact⟨_,hk,base,n,c,bs,h1,h2,h3,rfl⟩
def Reads(P:Program)(g:Gh)(o:Oper)(ρ:Operand→Value)(H:Hp)(k:Value→Prop):Prop:=
 ∃v,k v∧∀w,Own g H w→(execOp ρ o).run P w=.ok (.value v) w
theorem Reads.mk{o:Oper}{ρ:Operand→Value}{k:Value→Prop}{s:Sem Value}(he:execOp ρ o=(do pure (.value (←s))))(h:∃v,k v∧∀w,Own g H w→s.run P w=.ok v w):Reads P g o ρ H k:=by
 obtain⟨v,hk,hr⟩:=h
 refine⟨v,hk,fun w hw=>?_⟩
 rw[he]
 simp only[Sem.run_bind,hr w hw,Result.andThen_ok,Sem.run_pure]
theorem jH.reads{o:Oper}{ρ:Operand→Value}{k:Value→Prop}(h:jH P g o ρ H k):Reads P g o ρ H k:=let ⟨v,h1,h2⟩:=h;⟨v,h2,h1⟩
theorem VU{s:Sem Value}{k:Value→Prop}{C:(Value→Prop)→Prop}(ac7:∃v,k v∧C (· =v))(hrun:∀(k:Value→Prop),C k→∀w,Own g H w→∃v,s.run P w=.ok v w∧k v):
  ∃v,k v∧∀w,Own g H w→s.run P w=.ok v w:=by
 obtain⟨v,hk,hc⟩:=ac7
 refine⟨v,hk,fun w hw=>?_⟩
 obtain⟨u,hr,rfl⟩:=hrun _ hc w hw
 exact hr
theorem bU{t:TypeId}{n:Nat}(h:dO P t=some n):∃i,P.info? t=some i∧i.size=n:=by
 unfold dO at h
 split at h
 ·rename_i i hi;exact⟨i,hi,by simpa using h⟩
 ·simp at h
theorem de{t:TypeId}{z:Value}(h:fu P t=some z):∃i,P.info? t=some i∧i.zero=some z:=by
 unfold fu at h
 split at h
 ·rename_i i hi;exact⟨i,hi,by simpa using h⟩
 ·simp at h
theorem kj{o:Oper}{ρ:Operand→Value}{k:Value→Prop}(h:AY P g o ρ H k):Reads P g o ρ H k:=by
 obtain⟨dst,op,type,pos,after,guard⟩:=o
 cases op<;>simp only[AY]at h
 case move x=>exact⟨_,h,fun w _=>rfl⟩
 case assign x=>exact⟨_,h,fun w _=>rfl⟩
 case pick c a b=>
  obtain⟨t,hc,hk⟩:=h
  refine⟨_,hk,fun w _=>?_⟩
  cases t<;>simp[execOp,hc,asBool]
 case load t a=>
  split at h
  ·rename_i d n hd hn
   obtain⟨i,hi,hin⟩:=bU hn
   refine Reads.mk (s:=Instr.loadAt t (ρ a)) rfl ?_
   cases ha:cO d<;>simp only[ha,cond_true,cond_false]at h
   ·exact VU h.fix fun k hk w hw=>hk.run hw hd ha
   ·exact VU h.fix fun k hk w hw=>hk.run hw hd ha hi hin
  ·exact h.elim
 case nilCheck x=>
  obtain⟨v,hv,hk⟩:=h
  refine⟨v,hk,fun w _=>?_⟩
  unfold Zs at hv
  simp only[execOp]
  split at hv<;>simp only[Option.some.injEq,reduceCtorEq]at hv<;>subst hv<;>simp_all
 case binOp op t x y yt=>
  split at h
  ·rename_i d hd
   split at h
   ·exact h.reads
   ·rename_i Wd
    refine Reads.mk (s:=do eqGuard op t x y (ρ x) (ρ y);binOp op t (ρ x) (ρ y)) rfl ?_
    obtain⟨v,hv,hk⟩:=h
    exact⟨v,hk,fun w _=>by
     obtain⟨u,hr,rfl⟩:=ae.run (P:=P) (k:=(· =v)) ⟨v,hv,rfl⟩ w (ox:=x) (oy:=y) hd rfl
     exact hr⟩
  ·exact h.elim
 case unOp op t x=>
  obtain⟨v,hv,hk⟩:=h
  refine Reads.mk (s:=Op.unary op (ρ x)) rfl ⟨v,hk,fun w _=>?_⟩
  obtain⟨u,hr,rfl⟩:=Un.run (P:=P) (k:=(· =v)) ⟨v,hv,rfl⟩ w
  exact hr
 case convert s d x=>
  split at h
  ·rename_i ds kd hs hd
   obtain⟨j,n,hx,hk⟩:=h
   refine Reads.mk (s:=Go.convert s d (ρ x)) rfl ⟨_,hk,fun w _=>?_⟩
   obtain⟨u,hr,rfl⟩:=bL.run (P:=P) (kd:=kd) (k:=(· =_)) ⟨j,n,hx,rfl⟩ w hs hd rfl
   exact hr
  ·rename_i e hs hd
   split at h
   ·rename_i he
    refine Reads.mk (s:=Go.convert s d (ρ x)) rfl ?_
    have:∀w,(Go.convert s d (ρ x)).run P w=(Conv.bytesToString (ρ x)).run P w:=fun w=>by
     obtain⟨base,n,c,bs,hx,_⟩:=h
     simp only[Go.convert,Sem.run_bind,run_underlying hs,run_underlying hd,Result.andThen_ok,hx,run_underlying he]
    simp only[this]
    exact VU h.fix fun k hk w hw=>hk.run hw
   ·exact h.reads
  ·exact h.reads
 case index t x i=>
  split at h
  ·rename_i ht
   obtain⟨s,kd,j,b,hx,hi,h0,hb,hk⟩:=h
   refine Reads.mk (s:=Instr.index t (ρ x) (ρ i)) rfl ⟨_,hk,fun w _=>?_⟩
   simp[Instr.index,run_underlying ht,hx,hi,asIntOf,h0,hb]
  ·exact h.reads
 case fieldAddr s x f=>
  split at h<;>try exact h.elim
  rename_i fs hs
  split at h<;>try exact h.elim
  rename_i fl hf
  split at h<;>try exact h.elim
  rename_i m hm
  obtain⟨i,hi,hin⟩:=bU hm
  obtain⟨b,o,hx,hk⟩:=h
  refine Reads.mk (s:=Instr.fieldAt s (ρ x) f) rfl ⟨_,hk,fun w _=>?_⟩
  obtain⟨u,hr,rfl⟩:=aa.run (P:=P) (k:=(· =_)) ⟨b,o,hx,rfl⟩ w hs hf hi (by omega) rfl
  exact hr
 case field s x f=>
  split at h<;>try exact h.elim
  rename_i fs hs
  split at h<;>try exact h.elim
  rename_i fl hf
  split at h<;>try exact h.elim
  rename_i d n hd hn
  obtain⟨i,hi,hin⟩:=bU hn
  refine Reads.mk (s:=Instr.field s (ρ x) f) rfl ?_
  cases ha:cO d<;>simp only[ha,cond_true,cond_false]at h
  ·obtain⟨cs,v,hx,hv,hk⟩:=h
   refine⟨v,hk,fun w _=>?_⟩
   obtain⟨u,hr,rfl⟩:=Bb.run (P:=P) (k:=(· =v)) ⟨cs,v,hx,hv,rfl⟩ w hs hf hd ha rfl
   exact hr
  ·obtain⟨cs,hx,hk⟩:=h
   refine⟨_,hk,fun w _=>?_⟩
   obtain⟨u,hr,rfl⟩:=RU.run (P:=P) (k:=(· =_)) ⟨cs,hx,rfl⟩ w hs hf hd ha hi hin rfl
   exact hr
 case indexAddr t x ix=>
  refine Reads.mk (s:=Instr.indexAt t (ρ x) (ρ ix)) rfl ?_
  split at h
  ·rename_i e ht
   split at h<;>try exact h.elim
   rename_i n hn
   obtain⟨i,hi,hin⟩:=bU hn
   obtain⟨b,o,n',c,kd,j,hx,hix,h0,h1,hk⟩:=h
   refine⟨_,hk,fun w _=>?_⟩
   obtain⟨u,hr,rfl⟩:=ah.run (P:=P) (k:=(· =_)) ⟨b,o,n',c,kd,j,hx,hix,h0,h1,rfl⟩ w ht hi hin
   exact hr
  ·rename_i len e ht
   split at h<;>try exact h.elim
   rename_i n hn
   obtain⟨i,hi,hin⟩:=bU hn
   obtain⟨b,o,kd,j,hx,hix,h0,h1,hk⟩:=h
   refine⟨_,hk,fun w _=>?_⟩
   obtain⟨u,hr,rfl⟩:=AS.run (P:=P) (k:=(· =_)) ⟨b,o,kd,j,hx,hix,h0,h1,rfl⟩ w ht hi hin
   exact hr
  ·exact h.elim
 case slice t x lo hi mx=>
  cases mx with
  |some m=>simp only at h;exact h.reads
  |none=>
   simp only at h
   split at h
   ·rename_i e ht
    split at h<;>try exact h.elim
    rename_i n hn
    obtain⟨i,hi',hin⟩:=bU hn
    obtain⟨a,n',c,l,hh,hx,hl,qk,h0,h1,h2,hk⟩:=h
    refine Reads.mk (s:=Instr.sliceAt t (ρ x) (lo.map ρ) (hi.map ρ) none) rfl ⟨_,hk,fun w _=>?_⟩
    obtain⟨u,hr,rfl⟩:=gh.run (P:=P) (k:=(· =_)) ⟨a,n',c,l,hh,hx,hl,qk,h0,h1,h2,rfl⟩ w ht hi' hin
    exact hr
   ·exact h.reads
 case extract t i=>
  obtain⟨vs,v,hx,hv,hk⟩:=h
  refine Reads.mk (s:=Instr.extract (ρ t) i) rfl ⟨v,hk,fun w _=>?_⟩
  obtain⟨u,hr,rfl⟩:=Ext.run (P:=P) (k:=(· =v)) ⟨vs,v,hx,hv,rfl⟩ w
  exact hr
 case lookup t m key ok=>
  split at h<;>try exact h.elim
  rename_i kt e ht
  split at h<;>try exact h.elim
  rename_i kd z GD hz
  obtain⟨i,hi,vx⟩:=de hz
  cases hp:plainKey kd<;>simp only[hp,cond_true,cond_false]at h
  ·cases lA:cO kd<;>simp only[lA,cond_true,cond_false]at h
   ·exact h.reads
   ·exact Reads.mk (s:=Instr.lookup t (ρ m) (ρ key) ok) rfl (VU h.fix fun k hk w hw=>hk.run hw ht GD lA hi vx)
  ·exact Reads.mk (s:=Instr.lookup t (ρ m) (ρ key) ok) rfl (VU h.fix fun k hk w hw=>hk.run hw ht GD hp hi vx)
 case makeFunc fn a b=>
  refine⟨_,h,fun w _=>?_⟩
  simp[execOp,Instr.makeFunc,mapList]
 case build t parts=>
  obtain⟨v,hr,hk⟩:=h
  refine Reads.mk (s:=Instr.build t (parts.map fun(i,x)=>(i,ρ x))) rfl ⟨v,hk,fun w _=>?_⟩
  have:=hr w
  rw[mapList (fun p:Nat×Operand=>(p.1,ρ p.2)) parts]at this
  exact this
 case makeInterface t x=>
  split at h
  ·exact h.elim
  ·rename_i d UJ hd
   refine Reads.mk (s:=Instr.makeInterface t (ρ x)) rfl ⟨_,h,fun w _=>?_⟩
   simp only[Instr.makeInterface,Sem.run_bind,run_underlying hd,Result.andThen_ok]
   cases d<;>first|rfl|exact absurd hd (UJ _)
  ·exact h.elim
 case call c=>
  obtain⟨callee,args,argTypes⟩:=c
  cases callee with
  |value f=>simp only at h
  |invoke r m=>simp only at h
  |builtin b=>
   cases b<;>simp only at h<;>try exact h.reads
   case max=>
    split at h<;>try exact h.reads
    rename_i x y t t' hx ht
    split at h<;>try exact h.reads
    have hx:=AI hx
    have ht:=AI ht
    subst hx;subst ht
    obtain⟨kd,a,b,h1,h2,hk⟩:=h
    refine Reads.mk (s:=Builtin.max_ #[t,t'] type #[ρ x,ρ y]) (by simp[execOp,resolve,invoke,builtin,bind,Sem.bind];rfl) ⟨_,hk,fun w _=>?_⟩
    simp[Builtin.max_,Builtin.max2,h1,h2]
   case min=>
    split at h<;>try exact h.reads
    rename_i x y t t' hx ht
    split at h<;>try exact h.reads
    have hx:=AI hx
    have ht:=AI ht
    subst hx;subst ht
    obtain⟨kd,a,b,h1,h2,hk⟩:=h
    refine Reads.mk (s:=Builtin.min_ #[t,t'] type #[ρ x,ρ y]) (by simp[execOp,resolve,invoke,builtin,bind,Sem.bind];rfl) ⟨_,hk,fun w _=>?_⟩
    simp[Builtin.min_,Builtin.min2,h1,h2]
   split at h<;>try exact h.elim
   rename_i x t hx ht
   have hx:=Y8 hx
   have ht:=Y8 ht
   subst hx;subst ht
   split at h
   ·rename_i e hd
    refine Reads.mk (s:=Builtin.len_ #[t] type #[ρ x]) (by simp[execOp,resolve,invoke,builtin,bind,Sem.bind];rfl) ?_
    obtain⟨a,n,c,hx,hk⟩:=h
    refine⟨_,hk,fun w _=>?_⟩
    obtain⟨u,hr,rfl⟩:=aG.run (P:=P) (k:=(· =_)) ⟨a,n,c,hx,rfl⟩ w (ty:=type) hd
    exact hr
   ·rename_i e e' hd
    refine Reads.mk (s:=Builtin.len_ #[t] type #[ρ x]) (by simp[execOp,resolve,invoke,builtin,bind,Sem.bind];rfl) ?_
    exact VU h.fix fun k hk w hw=>hk.run hw hd
   ·rename_i hd
    refine Reads.mk (s:=Builtin.len_ #[t] type #[ρ x]) (by simp[execOp,resolve,invoke,builtin,bind,Sem.bind];rfl) ?_
    obtain⟨s,hx,hk⟩:=h
    exact⟨_,hk,fun w _=>by simp[Builtin.len_,run_underlying hd,hx,goInt]⟩
   ·exact h.reads
 all_goals exact h.reads
def valOf(o:Oper)(ρ:Operand→Value)(v:Value):Prop:=
 match o.op with
 | .move x=>v=ρ x
 | .assign x=>v=ρ x
 | .pick c a b=>∀t,ρ c=.bool t→v=cond t (ρ a) (ρ b)
 |_=>True
theorem nB{o:Oper}{ρ:Operand→Value}{k:Value→Prop}(h:AY P g o ρ H k):∃v,k v∧(∀w,Own g H w→(execOp ρ o).run P w=.ok (.value v) w)∧valOf o ρ v:=by
 obtain⟨dst,op,type,pos,after,guard⟩:=o
 cases op
 case move x=>exact⟨_,h,fun w _=>rfl,rfl⟩
 case assign x=>exact⟨_,h,fun w _=>rfl,rfl⟩
 case pick c a b=>
  obtain⟨t,hc,hk⟩:=h
  refine⟨_,hk,fun w _=>?_,fun t' ht'=>?_⟩
  ·cases t<;>simp[execOp,hc,asBool]
  ·rw[hc]at ht';simp only[Value.bool.injEq]at ht';subst ht';rfl
 all_goals
  obtain⟨v,hk,hr⟩:=kj h
  exact⟨v,hk,hr,trivial⟩
end
end Go.Sx
namespace Go.Sx
open Go
section
variable {P:Program} {g:Gh} {H:Hp} {K:Value→Hp→Prop} {KP:List PanicEntry→Hp→Prop}
def av(P:Program)(t len:Nat)(parts:List (Nat×Value))(H:Hp)(k:Value→Hp→Prop):Prop:=
 ∃cs,(∃e n z,P.underlying t=some (.slice e)∧dO P e=some n∧fu P e=some z∧len*n≤2^24∧
   Instr.fill (fun i=>some (i*n,n)) ((Array.range (len*n)).map (z.cells[· %z.cells.size]!)) parts=some cs∧
   bq H (.cells cs e (0,0)) fun b H'=>k (.slice (some ⟨b,0,none⟩) len len) H')
def O1(P:Program)(g:Gh)(o:Oper)(ρ:Operand→Value)(H:Hp)(K:Value→Hp→Prop)(KP:List PanicEntry→Hp→Prop):Prop:=
 match o.op with
 | .alloc t=>match fu P t with
  |some z=>bq H (.cells z.cells t (0,0)) fun b H'=>K (.pointer (some ⟨b,0,none⟩)) H'
  |none=>False
 | .box t x=>bq H (.cells (ρ x).cells t (0,0)) fun b H'=>K (.pointer (some ⟨b,0,none⟩)) H'
 | .store t a x=>match dO P t with
  |some n=>St n H (ρ a) (ρ x) fun H'=>K undef H'
  |none=>False
 | .buildSlice t len parts=>av P t len (parts.toList.map fun p=>(p.1,ρ p.2)) H K
 | .makeMap _ none=>qg H K
 | .makeSlice t l c=>match P.underlying t with
  |some (.slice e)=>match dO P e,um P e,fu P e with
   |some n,some b,some z=>cc e n b z H (ρ l) (ρ c) K
   |_,_,_=>False
  |_=>False
 | .mapUpdate t m key x=>match P.underlying t with
  |some (.map kt _)=>match P.underlying kt with
   |some kd=>cond (plainKey kd) (gi kd H (ρ m) (ρ key) (ρ x) fun H'=>K undef H') (cond (cO kd) (lJ P kt H (ρ m) (ρ key) (ρ x) fun H'=>K undef H') (nk P g o ρ H K KP))
   |none=>False
  |_=>False
 | .insert t m key x=>match P.underlying t with
  |some (.map kt _)=>match P.underlying kt with
   |some kd=>cond (plainKey kd) (gi kd H (ρ m) (ρ key) (ρ x) fun H'=>K undef H') (cond (cO kd) (lJ P kt H (ρ m) (ρ key) (ρ x) fun H'=>K undef H') (nk P g o ρ H K KP))
   |none=>False
  |_=>False
 | .range t x=>match P.underlying t with
  |some (.map _ _)=>Zg H (ρ x) K
  |_=>nk P g o ρ H K KP
 | .next it false=>Ws H (ρ it) K
 | .entry it=>OO H (ρ it) fun v=>K v H
 | .call c=>
  match c.callee with
  | .value (.func f)=>cond (cR P f) (ag P g f (c.args.toList.map ρ).toArray H K KP) (nk P g o ρ H K KP)
  | .value f=>fx P g (ρ f) (c.args.toList.map ρ).toArray H K KP
  | .builtin .append=>
   match c.args.toList,c.argTypes.toList with
   | [s,x],[t,t']=>match P.underlying t,P.underlying t' with
    |some (.slice e),some (.slice _)=>match dO P e,um P e,fu P e with
     |some n,some b,some z=>App P e n b z H (ρ s) (ρ x) K
     |_,_,_=>False
    |_,_=>nk P g o ρ H K KP
   |_,_=>False
  | .builtin .delete=>
   match c.args.toList,c.argTypes.toList with
   | [m,key],[t,_]=>match P.underlying t with
    |some (.map kt _)=>match P.underlying kt with
     |some kd=>cond (plainKey kd) (uF kd H (ρ m) (ρ key) fun H'=>K (.tuple #[]) H') (cond (cO kd) (qh P kt H (ρ m) (ρ key) fun H'=>K (.tuple #[]) H') (nk P g o ρ H K KP))
     |none=>False
    |_=>False
   |_,_=>nk P g o ρ H K KP
  |_=>nk P g o ρ H K KP
 |_=>nk P g o ρ H K KP
theorem mT{t:TypeId}{n:Nat}(h:um P t=some n):∃i,P.info? t=some i∧i.bytes=n:=by
 unfold um at h
 split at h
 ·rename_i i hi;exact⟨i,hi,by simpa using h⟩
 ·simp at h
theorem nk.ofValue{o:Oper}{ρ:Operand→Value}{s:Sem Value}(he:execOp ρ o=(do pure (.value (←s))))(h:∀w,Own g H w→∃v w' H',s.run P w=.ok v w'∧Own g H' w'∧K v H'):nk P g o ρ H K KP:=by
 intro w hw
 obtain⟨v,w',H',hr,ho,hk⟩:=h w hw
 rw[he]
 simp only[Sem.run_bind,hr,Result.andThen_ok,Sem.run_pure]
 exact⟨H',ho,hk⟩
theorem nk.qB{o:Oper}{ρ:Operand→Value}{s:Sem Unit}(he:execOp ρ o=(do s;pure .skip))(h:∀w,Own g H w→∃w' H',s.run P w=.ok () w'∧Own g H' w'∧K undef H'):nk P g o ρ H K KP:=by
 intro w hw
 obtain⟨w',H',hr,ho,hk⟩:=h w hw
 rw[he]
 simp only[Sem.run_bind,hr,Result.andThen_ok,Sem.run_pure]
 exact⟨H',ho,hk⟩
theorem fp{f:FuncId}(h:cR P f=true)(args:Array Value)(w:World):(callFunc f args).run P w=.ok (.enter f args) w:=by
 unfold cR at h
 split at h
 ·simp at h
 ·rename_i fn hf
  simp only[Bool.and_eq_true,Bool.not_eq_true']at h
  obtain⟨h1,h2⟩:=h
  have h3:fn.body.isNone=false:=by cases hb:fn.body<;>simp_all
  simp only[callFunc,Sem.run_bind,run_program,Result.andThen_ok,hf,show(fn.name== "runtime.NumGoroutine")=false from h1,h3,Bool.false_eq_true,if_false]
  rfl
theorem fx.op{o:Oper}{c:Call}{ρ:Operand→Value}{x:Operand}(ho:o.op=.call c)(hc:c.callee=.value x)(h:fx P g (ρ x) (c.args.toList.map ρ).toArray H K KP):nk P g o ρ H K KP:=by
 obtain⟨f,first,captured,hf,jW,SP⟩:=h
 rw[mapList]at SP
 intro w hw
 have hr:(execOp ρ o).run P w=.ok (.enter f (first++c.args.map ρ++captured)) w:=by
  simp only[execOp,ho,resolve,hc,Deferred.ofValue,hf,invoke]
  show(callFunc f (first++c.args.map ρ++captured)).run P w=_
  exact fp jW _ w
 rw[hr]
 exact SP w hw
theorem tu{o:Oper}{ρ:Operand→Value}(hρ:∀f,ρ (.func f)=.func (.func f) #[] #[])(h:O1 P g o ρ H K KP):nk P g o ρ H K KP:=by
 unfold O1 at h
 split at h
 case h_1 t hop=>
  split at h
  ·rename_i z hz
   obtain⟨i,hi,vx⟩:=de hz
   refine nk.ofValue (s:=Instr.alloc t true (.tuple #[])) (by simp only[execOp,hop]) fun w hw=>⟨_,_,_,?_,hw.alloc _,h _ hw.fresh⟩
   simp[Instr.alloc,eZ hi vx,newVar,newRow]
  ·exact h.elim
 case h_2 t x hop=>
  refine nk.ofValue (s:=Instr.box t (ρ x)) (by simp only[execOp,hop]) fun w hw=>⟨_,_,_,?_,hw.alloc _,h _ hw.fresh⟩
  simp[Instr.box,newVar,newRow]
 case h_3 t a x hop=>
  split at h
  ·rename_i n hn
   obtain⟨i,hi,hin⟩:=bU hn
   exact nk.qB (s:=Instr.storeAt t (ρ a) (ρ x)) (by simp only[execOp,hop]) fun w hw=>h.run hw hi hin
  ·exact h.elim
 case h_4 t len parts hop=>
  obtain⟨cs,e,n,z,ht,hn,hz,hl,hf,hk⟩:=h
  obtain⟨i,hi,hin⟩:=bU hn
  obtain⟨i',hi',vx⟩:=de hz
  have:i'=i:=Option.some.inj (hi'.symm.trans hi)
  subst this
  subst hin
  refine nk.ofValue (s:=Instr.buildSlice t len (parts.map fun(i,x)=>(i,ρ x))) (by simp only[execOp,hop]) fun w hw=>⟨_,_,_,?_,hw.alloc _,hk _ hw.fresh⟩
  have hl':¬(len*i'.size>2^24):=by omega
  have qJ:(parts.map fun(x:Nat×Operand)=>(x.1,ρ x.2)).toList=parts.toList.map fun p=>(p.1,ρ p.2):=by rw[Array.toList_map]
  by_cases h0:len*i'.size=0
  ·simp only[Instr.buildSlice,Sem.run_bind,run_underlying ht,Result.andThen_ok,run_sizeOf hi,hl',if_false,h0,if_true,Sem.run_pure]
   rw[h0]at hf
   have IB:Array.range 0=#[]:=rfl
   simp only[IB,Array.map_empty,List.map_toArray,List.map_nil]at hf⊢
   rw[qJ,hf]
   simp[newRow]
  ·simp only[Instr.buildSlice,Sem.run_bind,run_underlying ht,Result.andThen_ok,run_sizeOf hi,hl',if_false,h0,eZ hi vx,Sem.run_pure]
   simp[hf,newRow]
 case h_5 t hop=>
  refine nk.ofValue (s:=Instr.makeMap t none) (by simp only[execOp,hop];rfl) fun w hw=>⟨_,_,_,?_,hw.alloc _,h _ hw.fresh⟩
  simp[Instr.makeMap]
 case h_6 t l c hop=>
  split at h<;>try exact h.elim
  rename_i e ht
  split at h<;>try exact h.elim
  rename_i n b z hn hb hz
  obtain⟨i,hi,hin⟩:=bU hn
  obtain⟨i',hi',vx⟩:=de hz
  obtain⟨i2,Cn,tM⟩:=mT hb
  have e1:i'=i:=Option.some.inj (hi'.symm.trans hi)
  have e2:i2=i:=Option.some.inj (Cn.symm.trans hi)
  subst e1;subst e2
  exact nk.ofValue (s:=Instr.makeSlice t (ρ l) (ρ c)) (by simp only[execOp,hop]) fun w hw=>h.run hw ht hi vx hin tM
 case h_7 t m key x hop=>
  split at h<;>try exact h.elim
  rename_i kt e ht
  split at h<;>try exact h.elim
  rename_i kd GD
  cases hp:plainKey kd<;>simp only[hp,cond_true,cond_false]at h
  ·cases lA:cO kd<;>simp only[lA,cond_true,cond_false]at h
   ·exact h
   ·exact nk.qB (s:=Instr.mapUpdate t (ρ m) (ρ key) (ρ x)) (by simp only[execOp,hop]) fun w hw=>h.run hw ht GD lA
  ·exact nk.qB (s:=Instr.mapUpdate t (ρ m) (ρ key) (ρ x)) (by simp only[execOp,hop]) fun w hw=>h.run hw ht GD hp
 case h_8 t m key x hop=>
  split at h<;>try exact h.elim
  rename_i kt e ht
  split at h<;>try exact h.elim
  rename_i kd GD
  cases hp:plainKey kd<;>simp only[hp,cond_true,cond_false]at h
  ·cases lA:cO kd<;>simp only[lA,cond_true,cond_false]at h
   ·exact h
   ·exact nk.qB (s:=Instr.mapUpdate t (ρ m) (ρ key) (ρ x)) (by simp only[execOp,hop]) fun w hw=>h.run hw ht GD lA
  ·exact nk.qB (s:=Instr.mapUpdate t (ρ m) (ρ key) (ρ x)) (by simp only[execOp,hop]) fun w hw=>h.run hw ht GD hp
 case h_9 t x hop=>
  split at h
  ·rename_i kt e ht
   exact nk.ofValue (s:=Instr.range t (ρ x)) (by simp only[execOp,hop]) fun w hw=>h.run hw ht
  ·exact h
 case h_10 it hop=>
  exact nk.ofValue (s:=Instr.next (ρ it) false o.type) (by simp only[execOp,hop]) fun w hw=>h.run hw
 case h_11 it hop=>
  exact nk.ofValue (s:=Instr.entry (ρ it)) (by simp only[execOp,hop]) fun w hw=>let ⟨v,hr,hk⟩:=h.run hw;⟨v,w,H,hr,hw,hk⟩
 case h_12 c hop=>
  split at h
  ·rename_i f hc
   cases jW:cR P f<;>simp only[jW,cond_true,cond_false]at h
   ·exact h
   ·rw[mapList]at h
    intro w hw
    have hr:(execOp ρ o).run P w=.ok (.enter f (c.args.map ρ)) w:=by
     simp only[execOp,hop,resolve,hc,Deferred.ofValue,hρ,invoke]
     show(callFunc f ((#[]++c.args.map ρ)++ #[])).run P w=_
     rw[Array.empty_append,Array.append_empty]
     exact fp jW _ w
    rw[hr]
    exact h w hw
  ·rename_i x _ hc
   exact fx.op hop hc h
  ·rename_i hc
   split at h<;>try exact h.elim
   rename_i s x t t' hx ht
   have hx:=AI hx
   have ht:=AI ht
   split at h
   ·rename_i e e' hd ej
    split at h<;>try exact h.elim
    rename_i n b z hn hb hz
    obtain⟨i,hi,hin⟩:=bU hn
    obtain⟨i',hi',vx⟩:=de hz
    obtain⟨i2,Cn,tM⟩:=mT hb
    have e1:i'=i:=Option.some.inj (hi'.symm.trans hi)
    have e2:i2=i:=Option.some.inj (Cn.symm.trans hi)
    subst e1;subst e2
    refine nk.ofValue (s:=Builtin.append_ #[t,t'] o.type #[ρ s,ρ x]) ?_ fun w hw=>h.run hw hd ⟨_,ej⟩ hi vx hin tM
    simp only[execOp,hop,resolve,hc,hx,ht,invoke,builtin]
    simp[bind,Sem.bind];rfl
   ·exact h
  ·rename_i hc
   split at h
   ·rename_i m key t t' hx ht
    have hx:=AI hx
    have ht:=AI ht
    split at h<;>try exact h.elim
    rename_i kt e hd
    split at h<;>try exact h.elim
    rename_i kd GD
    cases hp:plainKey kd<;>simp only[hp,cond_true,cond_false]at h
    ·cases lA:cO kd<;>simp only[lA,cond_true,cond_false]at h
     ·exact h
     ·refine nk.ofValue (s:=Builtin.delete_ #[t,t'] o.type #[ρ m,ρ key]) ?_ fun w hw=>?_
      ·simp only[execOp,hop,resolve,hc,hx,ht,invoke,builtin]
       simp[bind,Sem.bind];rfl
      ·obtain⟨w',H',hr,ho,hk⟩:=h.run (P:=P) hw (as:=#[t,t']) (ty:=o.type) rfl hd GD lA
       exact⟨_,w',H',hr,ho,hk⟩
    ·refine nk.ofValue (s:=Builtin.delete_ #[t,t'] o.type #[ρ m,ρ key]) ?_ fun w hw=>?_
     ·simp only[execOp,hop,resolve,hc,hx,ht,invoke,builtin]
      simp[bind,Sem.bind];rfl
     ·obtain⟨w',H',hr,ho,hk⟩:=h.run (P:=P) hw (as:=#[t,t']) (ty:=o.type) rfl hd GD hp
      exact⟨_,w',H',hr,ho,hk⟩
   ·exact h
  ·exact h
 all_goals exact h
end
end Go.Sx
namespace Go.Sx
open Go
section
variable {P:Program} {g:Gh} {ds:List Deferred}
def tH:Op→Bool
 | .move _| .assign _| .pick .. | .load .. | .nilCheck _| .binOp .. | .unOp .. | .convert .. | .fieldAddr .. | .field .. | .indexAddr .. | .index .. | .slice .. | .extract .. | .lookup .. | .makeFunc .. | .build .. | .makeInterface ..
 | .typeAssert .. =>true
 | .call c=>match c.callee with
  | .builtin .len| .builtin .cap| .builtin .min| .builtin .max=>true
  |_=>false
 |_=>false
def Tl(P:Program)(g:Gh)(f:FuncId)(args:Array Value)(H:Hp)(k:Value→Prop):Prop:=
 ∃v,ai P g f args H (fun e H'=>e=.returned v∧H'=H)∧k v
def opQ(P:Program)(g:Gh)(o:Oper)(ρ:Operand→Value)(H:Hp)(k:Value→Prop):Prop:=
 match o.op with
 | .call c=>match c.callee with
  | .value (.func f)=>cond (cR P f) (Tl P g f (c.args.toList.map ρ).toArray H k) False
  | .value x=>∃f first captured,ρ x=.func (.func f) first captured∧cR P f=true∧Tl P g f (first++(c.args.toList.map ρ).toArray++captured) H k
  |_=>False
 |_=>False
def cE:Option (Nat×Bool)→Option (Nat×Bool)→Bool
 |none,none=>true
 |some (i,a),some (j,b)=>Nat.beq i j&& (a==b)
 |_,_=>false
theorem iP{x y:Option (Nat×Bool)}(h:cE x y=true):x=y:=by
 cases x with
 |none=>cases y<;>simp_all[cE]
 |some a=>
  obtain⟨i,a⟩:=a
  cases y with
  |none=>simp[cE]at h
  |some b=>
   obtain⟨j,b⟩:=b
   simp only[cE,Bool.and_eq_true,beq_iff_eq]at h
   rw[Nat.eq_of_beq_eq_true h.1,h.2]
def gO(cur:Option (Nat×Bool)):List Oper→List Oper
 | []=>[]
 |o::r=>cond (cE o.guard cur) [] (o::gO cur r)
def iL(cur:Option (Nat×Bool)):List Oper→List Oper
 | []=>[]
 |o::r=>cond (cE o.guard cur) (o::r) (iL cur r)
theorem ry(cur:Option (Nat×Bool))(l:List Oper):gO cur l++iL cur l=l:=by
 induction l with
 |nil=>rfl
 |cons o r ih=>simp only[gO,iL];cases cE o.guard cur<;>simp[ih]
def rz:List Oper→Fr→Fr
 | [],fr=>fr
 |o::r,fr=>rz r (cz fr o.dst undef)
def bP:List Oper→Nat→Bool
 | [],_=>false
 |o::r,s=>(match o.dst with|some d=>Nat.beq s d|none=>false)||bP r s
def iy(n:Nat):List Oper→Bool
 | []=>true
 |o::r=>eA n o.dst&&iy n r
def ya(G:List Oper)(gs fr:Fr):Fr:=fun s=>cond (bP G s) (gs s) (fr s)
def oJ(p:Oper)(fr:Fr):Value:=
 match p.op with
 | .pick c a b=>match ev fr c with
  | .bool t=>cond t (ev fr a) (ev fr b)
  |_=>undef
 |_=>undef
def qH(p:Oper):Bool:=match p.op with| .pick .. =>true|_=>false
def eM(ops:Array Oper)(j:Nat):Option Nat:=match ops[j]? with|some oj=>oj.dst|none=>none
def mu(ops:Array Oper)(s:Nat)(want:Bool):List Nat→List Oper→Bool
 |_,[]=>true
 |seen,o::r=>
  (match o.guard with
  |none=>false
  |some (j,w)=>match eM ops j with
   |none=>false
   |some t=>(Nat.beq t s&& (w==want))||seen.any (Nat.beq t)) &&
  mu ops s want (match o.dst with|some d=>d::seen|none=>seen) r
def bM(v:Value)(want:Bool)(inner els k:Bool→Prop):Prop:=∃a t:Bool,v=.bool a∧(a=want→inner t)∧(a= !want→els t)∧k t
def Split(v:Value)(want:Bool)(k1 k2:Prop):Prop:=∃a:Bool,v=.bool a∧(a=want→k1)∧(a= !want→k2)
def kB:List (Nat×Bool)→Nat→Option Bool
 | [],_=>none
 |(t,b)::r,s=>cond (Nat.beq t s) (some b) (kB r s)
def lO:List (Nat×Bool)→Option Nat→List (Nat×Bool)
 |kn,none=>kn
 | [],some _=>[]
 |(t,b)::r,some d=>cond (Nat.beq t d) (lO r (some d)) ((t,b)::lO r (some d))
def lj:List (Nat×Bool)→List Oper→List (Nat×Bool)
 |kn,[]=>kn
 |kn,o::r=>lj (lO kn o.dst) r
def pQ(kn:List (Nat×Bool)):Operand→Option Bool
 | .const (.bool b)=>some b
 | .tmp t=>kB kn t
 |_=>none
def Uq(kn:List (Nat×Bool))(o:Oper):Option Bool:=
 match o.op with
 | .move x=>pQ kn x
 | .assign x=>pQ kn x
 | .pick c a b=>match pQ kn c with
  |some true=>pQ kn a
  |some false=>pQ kn b
  |none=>none
 |_=>none
def Up(kn:List (Nat×Bool))(o:Oper):List (Nat×Bool):=
 match Uq kn o,o.dst with
 |some b,some d=>(d,b)::lO kn (some d)
 |_,d=>lO kn d
def iC(kn:List (Nat×Bool))(fr:Fr):Prop:=∀s b,kB kn s=some b→fr s=.bool b
theorem iC.nil(fr:Fr):iC [] fr:=fun s b h=>by simp[kB]at h
theorem wm{kn:List (Nat×Bool)}{d s:Nat}{b:Bool}(h:kB (lO kn (some d)) s=some b):s≠d∧kB kn s=some b:=by
 induction kn with
 |nil=>simp[lO,kB]at h
 |cons x r ih=>
  obtain⟨t,c⟩:=x
  simp only[lO]at h
  cases hb:Nat.beq t d<;>simp only[hb,cond_true,cond_false]at h
  ·simp only[kB]at h⊢
   cases hs:Nat.beq t s<;>simp only[hs,cond_true,cond_false]at h⊢
   ·exact ih h
   ·refine⟨fun e=>?_,h⟩
    have:=Nat.eq_of_beq_eq_true hs
    subst this;subst e;simp at hb
  ·have h':=ih h
   refine⟨h'.1,?_⟩
   simp only[kB]
   have:=Nat.eq_of_beq_eq_true hb
   subst this
   cases hs:Nat.beq t s
   ·exact h'.2
   ·exact absurd (Nat.eq_of_beq_eq_true hs).symm h'.1
theorem iC.del{kn:List (Nat×Bool)}{fr:Fr}(h:iC kn fr)(d:Option Nat)(v:Value):iC (lO kn d) (cz fr d v):=by
 cases d with
 |none=>cases kn<;>exact h
 |some d=>
  intro s b hs
  obtain⟨h1,h2⟩:=wm hs
  simp only[cz]
  cases hb:Nat.beq s d
  ·exact h s b h2
  ·exact absurd (Nat.eq_of_beq_eq_true hb) h1
theorem iC.put{kn:List (Nat×Bool)}{fr:Fr}(h:iC kn fr){s:Nat}{b:Bool}(hs:fr s=.bool b):iC ((s,b)::kn) fr:=by
 intro t c ht
 simp only[kB]at ht
 cases hb:Nat.beq s t<;>simp only[hb,cond_true,cond_false]at ht
 ·exact h t c ht
 ·have:=Nat.eq_of_beq_eq_true hb;subst this;simp only[Option.some.injEq]at ht;subst ht;exact hs
theorem kA{kn:List (Nat×Bool)}{fr:Fr}(h:iC kn fr){x:Operand}{b:Bool}(hx:pQ kn x=some b):ev fr x=.bool b:=by
 cases x with
 |tmp t=>exact h t b hx
 |const v=>cases v<;>simp[pQ]at hx;subst hx;rfl
 |global g=>simp[pQ]at hx
 |func f=>simp[pQ]at hx
theorem Qr{kn:List (Nat×Bool)}{fr:Fr}(h:iC kn fr){o:Oper}{v:Value}(hv:valOf o (ev fr) v){b:Bool}(hb:Uq kn o=some b):v=.bool b:=by
 unfold Uq at hb
 unfold valOf at hv
 split at hb
 ·rename_i x hop;rw[hop]at hv;exact hv.trans (kA h hb)
 ·rename_i x hop;rw[hop]at hv;exact hv.trans (kA h hb)
 ·rename_i c a b' hop
  rw[hop]at hv
  split at hb
  ·rename_i hc;rw[hv _ (kA h hc)];exact kA h hb
  ·rename_i hc;rw[hv _ (kA h hc)];exact kA h hb
  ·simp at hb
 ·simp at hb
theorem iC.up{kn:List (Nat×Bool)}{fr:Fr}(h:iC kn fr){o:Oper}{v:Value}(hv:valOf o (ev fr) v):iC (Up kn o) (cz fr o.dst v):=by
 unfold Up
 split
 ·rename_i b d hb hd
  rw[hd]
  exact(h.del (some d) v).put (by simp[cz,Qr h hv hb])
 ·exact h.del _ _
theorem iC.YZ{kn:List (Nat×Bool)}{fr fr':Fr}:∀(l:List Oper),iC kn fr→(∀s,bP l s=false→fr' s=fr s)→iC (lj kn l) fr':=by
 intro l
 have key:∀(l:List Oper) (kn:List (Nat×Bool)) (s:Nat) (b:Bool),kB (lj kn l) s=some b→bP l s=false∧kB kn s=some b:=by
  intro l
  induction l with
  |nil=>intro kn s b h;exact⟨rfl,h⟩
  |cons o r ih=>
   intro kn s b h
   simp only[lj]at h
   obtain⟨h1,h2⟩:=ih _ s b h
   simp only[bP,h1,Bool.or_false]
   cases hd:o.dst with
   |none=>rw[hd]at h2;exact⟨rfl,by cases kn<;>exact h2⟩
   |some d=>
    rw[hd]at h2
    obtain⟨h3,h4⟩:=wm h2
    refine⟨?_,h4⟩
    cases hb:Nat.beq s d
    ·exact hb
    ·exact absurd (Nat.eq_of_beq_eq_true hb) h3
 intro h ho s b hs
 obtain⟨h1,h2⟩:=key l kn s b hs
 rw[ho s h1];exact h s b h2
def eO(P:Program)(g:Gh)(n:Nat)(ops:Array Oper)(gq:Bool):Nat→Bool→Option (Nat×Bool)→List (Nat×Bool)→List Oper→Fr→Hp→(List (Nat×Bool)→Fr→Hp→Prop)→(List PanicEntry→Hp→Prop)→Prop
 |0,_,_,_,_,_,_,_,_=>False
 |_+1,_,_,kn,[],fr,H,K,_=>K kn fr H
 |f+1,q,cur,kn,o::r,fr,H,K,KP=>
  cond (cE o.guard cur)
   (cond (eA n o.dst)
    (cond (tH o.op) (AY P g o (ev fr) H fun v=>eO P g n ops gq f q cur (Up kn o) r (cz fr o.dst v) H K KP)
     (cond q (opQ P g o (ev fr) H fun v=>eO P g n ops gq f q cur (lO kn o.dst) r (cz fr o.dst v) H K KP)
      (O1 P g o (ev fr) H (fun v H'=>eO P g n ops gq f q cur (lO kn o.dst) r (cz fr o.dst v) H' K KP) KP))) False)
   (match o.guard with
   |none=>False
   |some (j,want)=>
    match eM ops j with
    |none=>False
    |some s=>
     cond (eA n (some s) &&iy n (gO cur (o::r)) && !bP (gO cur (o::r)) s&&mu ops s want [] (gO cur (o::r)))
     (match kB kn s with
     |some b=>cond (b==want)
       (eO P g n ops gq f q o.guard kn (gO cur (o::r)) fr H (fun o6 fr' H'=>eO P g n ops gq f q cur o6 (iL cur (o::r)) fr' H' K KP) KP)
       (eO P g n ops gq f q cur (lj kn (gO cur (o::r))) (iL cur (o::r)) (rz (gO cur (o::r)) fr) H K KP)
     |none=>
     cond (q||gq)
      (match iL cur (o::r)with
      | []=>False
      |p::r'=>
       cond (qH p&&eA n p.dst)
       (bM (fr s) want
        (fun t=>eO P g n ops gq f true o.guard ((s,want)::kn) (gO cur (o::r)) (cz fr (some s) (.bool want)) H (fun _ fr' H'=>H'=H∧oJ p fr'=.bool t) (fun _ _=>False))
        (fun t=>oJ p (rz (gO cur (o::r)) (cz fr (some s) (.bool !want)))=.bool t)
        (fun t=>∀gs,eO P g n ops gq f q cur (lO (lj kn (gO cur (o::r))) p.dst) r' (cz (ya (gO cur (o::r)) gs fr) p.dst (.bool t)) H K KP)) False)
      (Split (fr s) want
       (eO P g n ops gq f q o.guard ((s,want)::kn) (gO cur (o::r)) (cz fr (some s) (.bool want)) H (fun o6 fr' H'=>eO P g n ops gq f q cur o6 (iL cur (o::r)) fr' H' K KP) KP)
       (eO P g n ops gq f q cur ((s, !want)::lj kn (gO cur (o::r))) (iL cur (o::r)) (rz (gO cur (o::r)) (cz fr (some s) (.bool !want))) H K KP))) False)
theorem j7{fr:Fr}{s:Nat}{v:Value}(h:fr s=v):cz fr (some s) v=fr:=by
 funext x
 simp only[cz]
 cases hb:Nat.beq x s
 ·rfl
 ·have:=Nat.eq_of_beq_eq_true hb;subst this;simp[h]
theorem fU{fr:Fr}{d:Option Nat}{v:Value}{s:Nat}(h:bP [({(default:Oper)with dst:=d})] s=false):cz fr d v s=fr s:=by
 cases d with
 |none=>rfl
 |some d=>simp only[bP,Bool.or_false]at h;simp only[cz,h,cond_false]
theorem dD{o:Oper}{r:List Oper}{s:Nat}:bP (o::r) s=(bP [({(default:Oper)with dst:=o.dst})] s||bP r s):=by
 simp[bP]
theorem cm{a b:List Oper}{s:Nat}:bP (a++b) s=(bP a s||bP b s):=by
 induction a with
 |nil=>simp[bP]
 |cons o r ih=>simp only[List.cons_append,bP,ih,Bool.or_assoc]
def eE(l:List Oper)(fr fr':Fr):Prop:=∀s,bP l s=false→fr' s=fr s
def kO(ops:Array Oper)(cur:Option (Nat×Bool))(l:List Oper)(fr:Fr):Prop:=
 match cur with
 |none=>True
 |some (j,want)=>∃s,eM ops j=some s∧fr s=.bool want∧bP l s=false
theorem kO.tail{ops:Array Oper}{cur:Option (Nat×Bool)}{o:Oper}{r:List Oper}{fr fr':Fr}(h:kO ops cur (o::r) fr)(he:∀s,bP [({(default:Oper)with dst:=o.dst})] s=false→fr' s=fr s):kO ops cur r fr':=by
 unfold kO at*
 split
 ·trivial
 ·obtain⟨s,h1,h2,h3⟩:=h
  rw[dD,Bool.or_eq_false_iff]at h3
  exact⟨s,h1,(he s h3.1).trans h2,h3.2⟩
theorem kS{n:Nat}{ops:Array Oper}{a:Act}{fr:Fr}(h:cD ds n a fr){j s:Nat}(hs:eM ops j=some s):yielded ops a.tmps j=match fr s with| .bool b=>some b|_=>none:=by
 unfold eM at hs
 split at hs
 ·rename_i oj hj
  have hg:=h.get s
  rw[Array.getD_eq_getD_getElem?]at hg
  simp only[yielded,hj,Option.bind_some,hs]
  cases ht:a.tmps[s]? with
  |none=>rw[ht]at hg;simp only[Option.getD_none]at hg;rw[←hg];rfl
  |some v=>rw[ht]at hg;simp only[Option.getD_some]at hg;rw[←hg];cases v<;>rfl
 ·simp at hs
theorem kO.wanted{n:Nat}{ops:Array Oper}{cur:Option (Nat×Bool)}{l:List Oper}{fr:Fr}(h:kO ops cur l fr){o:Oper}(ho:o.guard=cur){a:Act}(ha:cD ds n a fr):Region.wanted o (yielded ops a.tmps)=true:=by
 unfold kO at h
 unfold Region.wanted
 rw[ho]
 split at h
 ·rfl
 ·obtain⟨s,h1,h2,_⟩:=h
  simp only[kS ha h1,h2,beq_self_eq_true]
theorem oI{p:Oper}{fr:Fr}{t:Bool}(hp:qH p=true)(h:oJ p fr=.bool t)(w:World):(execOp (ev fr) p).run P w=.ok (.value (.bool t)) w:=by
 unfold qH at hp
 split at hp<;>try (simp at hp;done)
 rename_i c a b hop
 simp only[oJ,hop]at h
 split at h
 ·rename_i t' hc
  simp only[execOp,hop,hc,asBool]
  cases t'<;>simp only[cond_true,cond_false]at h<;>simp[h]
 ·simp[undef]at h
theorem nv{n:Nat}{ops:Array Oper}{Q:Exit→Act→World→Prop}{s:Nat}{want:Bool}{w:World}{rest:List Oper}:∀(l:List Oper) (seen:List Nat) (fr:Fr) (a:Act),iy n l=true→bP l s=false→mu ops s want seen l=true→
  fr s=.bool (!want)→(∀t∈seen,fr t=undef)→cD ds n a fr→(∀a',cD ds n a' (rz l fr)→wpList P ops Q rest a' w)→wpList P ops Q (l++rest) a w
 | [],_,fr,a,_,_,_,_,_,ha,hk=>hk a ha
 |o::r,seen,fr,a,hd,hi,hs,hf,tI,ha,hk=>by
  simp only[iy,Bool.and_eq_true]at hd
  rw[dD,Bool.or_eq_false_iff]at hi
  simp only[mu,Bool.and_eq_true]at hs
  obtain⟨u4,rJ⟩:=hs
  have XK:Region.wanted o (yielded ops a.tmps)=false:=by
   unfold Region.wanted
   split at u4
   ·simp at u4
   ·rename_i j w' hg
    rw[hg]
    split at u4
    ·simp at u4
    ·rename_i t ht
     simp only[kS ha ht]
     simp only[Bool.or_eq_true,Bool.and_eq_true,beq_iff_eq]at u4
     rcases u4 with⟨h1,rfl⟩|h1
     ·have:=Nat.eq_of_beq_eq_true h1;subst this
      rw[hf];cases w'<;>rfl
     ·obtain⟨u,hu,hb⟩:=List.any_eq_true.1 h1
      have:=Nat.eq_of_beq_eq_true hb;subst this
      rw[tI _ hu];rfl
  simp only[List.cons_append,wpList,XK,Bool.false_eq_true,if_false]
  refine nv r _ (cz fr o.dst undef) _ hd.2 hi.2 rJ ?_ ?_ (ha.put hd.1 undef) (fun a' h'=>hk a' h')
  ·rw[fU hi.1,hf]
  ·intro t ht
   cases Nf:o.dst with
   |none=>rw[Nf]at ht;exact tI t ht
   |some d=>
    rw[Nf]at ht
    simp only[cz]
    cases hb:Nat.beq t d
    ·simp only[cond_false]
     rcases List.mem_cons.1 ht with rfl|ht
     ·simp at hb
     ·exact tI t ht
    ·rfl
theorem ow{n:Nat}{ops:Array Oper}{C:World→Prop}{Q:Act→Prop}{s:Nat}{want:Bool}{rest:List Oper}:∀(l:List Oper) (seen:List Nat) (fr:Fr) (a:Act),iy n l=true→bP l s=false→mu ops s want seen l=true→
  fr s=.bool (!want)→(∀t∈seen,fr t=undef)→cD ds n a fr→(∀a',cD ds n a' (rz l fr)→wpQuiet P ops C Q rest a')→wpQuiet P ops C Q (l++rest) a
 | [],_,fr,a,_,_,_,_,_,ha,hk=>hk a ha
 |o::r,seen,fr,a,hd,hi,hs,hf,tI,ha,hk=>by
  simp only[iy,Bool.and_eq_true]at hd
  rw[dD,Bool.or_eq_false_iff]at hi
  simp only[mu,Bool.and_eq_true]at hs
  obtain⟨u4,rJ⟩:=hs
  have XK:Region.wanted o (yielded ops a.tmps)=false:=by
   unfold Region.wanted
   split at u4
   ·simp at u4
   ·rename_i j w' hg
    rw[hg]
    split at u4
    ·simp at u4
    ·rename_i t ht
     simp only[kS ha ht]
     simp only[Bool.or_eq_true,Bool.and_eq_true,beq_iff_eq]at u4
     rcases u4 with⟨h1,rfl⟩|h1
     ·have:=Nat.eq_of_beq_eq_true h1;subst this
      rw[hf];cases w'<;>rfl
     ·obtain⟨u,hu,hb⟩:=List.any_eq_true.1 h1
      have:=Nat.eq_of_beq_eq_true hb;subst this
      rw[tI _ hu];rfl
  simp only[List.cons_append,wpQuiet,XK,Bool.false_eq_true,if_false]
  refine ow r _ (cz fr o.dst undef) _ hd.2 hi.2 rJ ?_ ?_ (ha.put hd.1 undef) (fun a' h'=>hk a' h')
  ·rw[fU hi.1,hf]
  ·intro t ht
   cases Nf:o.dst with
   |none=>rw[Nf]at ht;exact tI t ht
   |some d=>
    rw[Nf]at ht
    simp only[cz]
    cases hb:Nat.beq t d
    ·simp only[cond_false]
     rcases List.mem_cons.1 ht with rfl|ht
     ·simp at hb
     ·exact tI t ht
    ·rfl
theorem dc:∀(l:List Oper) (fr:Fr),eE l fr (rz l fr)
 | [],fr=>fun s _=>rfl
 |o::r,fr=>fun s hs=>by
  rw[dD,Bool.or_eq_false_iff]at hs
  rw[rz,dc r _ s hs.2,fU hs.1]
end
end Go.Sx
namespace Go.Sx
open Go
section
variable {P:Program} {g:Gh} {ds:List Deferred}
theorem nJ(fr:Fr):∀f,ev fr (.func f)=.func (.func f) #[] #[]:=fun _=>rfl
theorem Gs{o:Oper}{fr:Fr}{H:Hp}{k:Value→Prop}(h:opQ P g o (ev fr) H k):
  ∃v f args,(∀w,(execOp (ev fr) o).run P w=.ok (.enter f args) w)∧ai P g f args H (fun e H'=>e=.returned v∧H'=H)∧k v:=by
 unfold opQ at h
 split at h<;>try exact h.elim
 rename_i c hop
 split at h<;>try exact h.elim
 ·rename_i f hc
  cases jW:cR P f<;>simp only[jW,cond_true,cond_false]at h
  obtain⟨v,hs,hk⟩:=h
  rw[mapList]at hs
  refine⟨v,f,_,fun w=>?_,hs,hk⟩
  simp only[execOp,hop,resolve,hc,Deferred.ofValue,nJ,invoke]
  show(callFunc f ((#[]++c.args.map (ev fr))++ #[])).run P w=_
  rw[Array.empty_append,Array.append_empty]
  exact fp jW _ w
 ·rename_i x _ hc
  obtain⟨f,first,captured,hf,jW,v,hs,hk⟩:=h
  rw[mapList]at hs
  refine⟨v,f,_,fun w=>?_,hs,hk⟩
  simp only[execOp,hop,resolve,hc,Deferred.ofValue,hf,invoke]
  show(callFunc f (first++c.args.map (ev fr)++captured)).run P w=_
  exact fp jW _ w
theorem nq.upon{o:Oper}{a:Act}{K:Value→Hp→Prop}{KP:List PanicEntry→Hp→Prop}{next:Act→World→Prop}{Q:Exit→Act→World→Prop}{r:Result Next}
 (h:nq P g K KP r)(hn:∀v H' w',Own g H' w'→K v H'→next (a.put o.dst v) w')(hp:∀ch H' w',Own g H' w'→KP ch H'→Q (.panic ch) a w'):o.upon P a next Q r:=by
 cases r with
 |ok n w'=>
  cases n<;>simp only[nq]at h<;>simp only[Oper.upon]
  case value v=>obtain⟨H',ho,hk⟩:=h;exact hn _ _ _ ho hk
  case skip=>obtain⟨H',ho,hk⟩:=h;exact hn _ _ _ ho hk
  case enter f args=>
   refine h.mono fun e w'' ⟨H',ho,hk⟩=>?_
   cases e with
   |returned v=>exact hn _ _ _ ho hk
   |panicked ch=>exact hp _ _ _ ho hk
   |outgrown=>exact hk.elim
 |halt x w'=>
  cases x<;>simp only[nq]at h
  case panic v=>obtain⟨H',ho,hk⟩:=h;exact hp _ _ _ ho hk
theorem eE.refl(l:List Oper)(fr:Fr):eE l fr fr:=fun _ _=>rfl
theorem eE.cons{o:Oper}{r:List Oper}{fr fr':Fr}{v:Value}(h:eE r (cz fr o.dst v) fr'):eE (o::r) fr fr':=fun s hs=>by
 rw[dD,Bool.or_eq_false_iff]at hs
 rw[h s hs.2,fU hs.1]
theorem cK{n:Nat}{ops:Array Oper}{gq:Bool}:∀(f:Nat) (q:Bool) (cur:Option (Nat×Bool)) (kn:List (Nat×Bool)) (l:List Oper) (fr:Fr) (H:Hp) (K:List (Nat×Bool)→Fr→Hp→Prop) (KP:List PanicEntry→Hp→Prop),
  eO P g n ops gq f q cur kn l fr H K KP→kO ops cur l fr→iC kn fr→∀(a:Act) (w:World),cD ds n a fr→Own g H w→∀(rest:List Oper) (Q:Exit→Act→World→Prop),
  (∀a' w' o6 fr' H',cD ds n a' fr'→Own g H' w'→eE l fr fr'→iC o6 fr'→K o6 fr' H'→wpList P ops Q rest a' w')→
  (∀ch a' w' fr' H',cD ds n a' fr'→Own g H' w'→KP ch H'→Q (.panic ch) a' w')→wpList P ops Q (l++rest) a w
 |0,_,_,_,_,_,_,_,_,h=>h.elim
 |f+1,q,cur,kn,[],fr,H,K,KP,h=>fun _ hkn a w ha hw rest Q hk _=>hk a w kn fr H ha hw (eE.refl _ _) hkn h
 |f+1,q,cur,kn,o::r,fr,H,K,KP,h=>by
  intro r8 hkn a w ha hw rest Q hk hp
  unfold eO at h
  cases Xv:cE o.guard cur<;>simp only[Xv,cond_true,cond_false]at h
  case true=>
   have hg:=iP Xv
   have n7:=r8.wanted hg ha
   cases hd:eA n o.dst<;>simp only[hd,cond_true,cond_false]at h
   simp only[List.cons_append,wpList,n7,if_true]
   refine .inl ?_
   unfold Oper.wp
   rw[ha.eval]
   cases xX:tH o.op<;>simp only[xX,cond_true,cond_false]at h
   case true=>
    obtain⟨v,hk',hr,hv⟩:=nB h
    rw[hr w hw]
    exact cK f q cur _ r _ H K KP hk' (r8.tail fun s hs=>fU hs) (hkn.up hv) _ w (ha.put hd v) hw rest Q (fun a' w' o6 fr' H' h1 h2 h3 h5 h4=>hk a' w' o6 fr' H' h1 h2 h3.cons h5 h4) hp
   case false=>
    cases q<;>simp only[cond_true,cond_false]at h
    case true=>
     obtain⟨v,f',args,hr,hs,hk'⟩:=Gs h
     rw[hr w]
     refine(hs w hw).mono fun e w'' ⟨H',ho,he,hH⟩=>?_
     subst he;subst hH
     exact cK f true cur _ r _ H' K KP hk' (r8.tail fun s hs=>fU hs) (hkn.del _ _) _ w'' (ha.put hd v) ho rest Q (fun a' w' o6 fr' H' h1 h2 h3 h5 h4=>hk a' w' o6 fr' H' h1 h2 h3.cons h5 h4) hp
    case false=>
     refine(tu (nJ fr) h w hw).upon (fun v H' w' ho hk'=>?_) (fun ch H' w' ho hk'=>hp ch a w' fr H' ha ho hk')
     exact cK f false cur _ r _ H' K KP hk' (r8.tail fun s hs=>fU hs) (hkn.del _ _) _ w' (ha.put hd v) ho rest Q (fun a' w' o6 fr' H' h1 h2 h3 h5 h4=>hk a' w' o6 fr' H' h1 h2 h3.cons h5 h4) hp
  case false=>
   split at h<;>try exact h.elim
   rename_i j want VZ
   split at h<;>try exact h.elim
   rename_i s jP
   generalize hG:gO cur (o::r)=G at h
   generalize hR:iL cur (o::r)=R at h
   have GI:G++R=o::r:=by rw[←hG,←hR];exact ry _ _
   cases fo:(eA n (some s) &&iy n G&& !bP G s&&mu ops s want [] G)<;>simp only[fo,cond_true,cond_false]at h
   simp only[Bool.and_eq_true,Bool.not_eq_true']at fo
   obtain⟨⟨⟨hds,Wb⟩,Ky⟩,Sr⟩:=fo
   rw[←GI,List.append_assoc]
   have agj:∀fr',eE G fr fr'→∀s,bP (o::r) s=false→fr' s=fr s:=fun fr' ho s hs=>by
    rw[←GI,cm,Bool.or_eq_false_iff]at hs
    exact ho s hs.1
   have mL:∀fr',eE G fr fr'→kO ops cur R fr':=fun fr' ho=>by
    unfold kO at r8⊢
    split
    ·trivial
    ·obtain⟨t,h1,h2,h3⟩:=r8
     have yN:=h3
     rw[←GI,cm,Bool.or_eq_false_iff]at yN
     exact⟨t,h1,(ho t yN.1).trans h2,yN.2⟩
   have IE:∀fr',eE G fr fr'→iC (lj kn G) fr':=fun fr' ho=>hkn.YZ G ho
   split at h
   ·rename_i b hb
    have o7:=hkn s b hb
    cases QV:(b==want)<;>simp only[QV,cond_true,cond_false]at h
    ·have nU:b= !want:=by cases b<;>cases want<;>simp_all
     subst nU
     refine nv G [] fr a Wb Ky Sr o7 (fun t ht=>by simp at ht) ha fun a' ew=>?_
     refine cK f q cur _ R _ H K KP h (mL _ (dc G fr)) (IE _ (dc G fr)) a' w ew hw rest Q (fun a2 w2 B3 rN H2 k1 k2 k3 k5 k4=>hk a2 w2 B3 rN H2 k1 k2 ?_ k5 k4) hp
     intro x hx
     have hx':=hx
     rw[←GI,cm,Bool.or_eq_false_iff]at hx'
     rw[k3 x hx'.2,dc G fr x hx'.1]
    ·have nU:b=want:=by cases b<;>cases want<;>simp_all
     subst nU
     refine cK f q o.guard kn G fr H _ KP h ?_ hkn a w ha hw (R++rest) Q ?_ hp
     ·rw[VZ];exact⟨s,jP,o7,Ky⟩
     ·intro a' w' o6 fr' H' g1 g2 g3 g5 g4
      refine cK f q cur o6 R fr' H' K KP g4 (mL fr' g3) g5 a' w' g1 g2 rest Q (fun a2 w2 B3 rN H2 k1 k2 k3 k5 k4=>hk a2 w2 B3 rN H2 k1 k2 ?_ k5 k4) hp
      intro x hx
      have hx':=hx
      rw[←GI,cm,Bool.or_eq_false_iff]at hx'
      rw[k3 x hx'.2,g3 x hx'.1]
   rename_i UN
   cases hqq:(q||gq)<;>simp only[hqq,cond_true,cond_false]at h
   case true=>
    split at h<;>try exact h.elim
    rename_i p r' 
    have hpg:cE p.guard cur=true:=by
     have:∀l:List Oper,iL cur l=p::r'→cE p.guard cur=true:=by
      intro l
      induction l with
      |nil=>intro e;simp[iL]at e
      |cons x y ih=>
       intro e
       simp only[iL]at e
       cases hx:cE x.guard cur<;>simp only[hx,cond_true,cond_false]at e
       ·exact ih e
       ·simp only[List.cons.injEq]at e;rw[←e.1];exact hx
     exact this _ hR
    cases hpk:(qH p&&eA n p.dst)<;>simp only[hpk,cond_true,cond_false]at h
    simp only[Bool.and_eq_true]at hpk
    obtain⟨b,t,o7,h1,h2,h3⟩:=h
    have fm:∀(a':Act) (w':World) (fr':Fr),cD ds n a' fr'→Own g H w'→eE G fr fr'→oJ p fr'=.bool t→wpList P ops Q (p::r'++rest) a' w':=by
     intro a' w' fr' ew dx ho UF
     have n7:=(mL fr' ho).wanted (iP hpg) ew
     simp only[List.cons_append,wpList,n7,if_true]
     refine .inl ?_
     unfold Oper.wp
     rw[ew.eval,oI hpk.1 UF w']
     have M8:ya G fr' fr=fr':=by
      funext x
      simp only[ya]
      cases hx:bP G x
      ·exact(ho x hx).symm
      ·rfl
     have yN:=h3 fr'
     rw[M8]at yN
     refine cK f q cur _ r' _ H K KP yN ((mL fr' ho).tail fun s hs=>fU hs) ((IE fr' ho).del _ _) _ w' (ew.put hpk.2 _) dx rest Q (fun a2 w2 B3 rN H2 g1 g2 g3 g5 g4=>hk a2 w2 B3 rN H2 g1 g2 ?_ g5 g4) hp
     intro x hx
     have hx':=hx
     rw[←GI,cm,Bool.or_eq_false_iff,dD,Bool.or_eq_false_iff]at hx'
     rw[g3 x hx'.2.2,fU hx'.2.1,ho x hx'.1]
    by_cases QV:b=want
    ·subst QV
     have x8:=h1 rfl
     rw[j7 o7]at x8
     refine cK f true o.guard _ G fr H _ _ x8 ?_ (hkn.put o7) a w ha hw (p::r'++rest) Q ?_ ?_
     ·rw[VZ];exact⟨s,jP,o7,Ky⟩
     ·intro a' w' o6 fr' H' g1 g2 g3 _ ⟨g4,g5⟩
      subst g4
      exact fm a' w' fr' g1 g2 g3 g5
     ·intro _ _ _ _ _ _ _ h0;exact h0.elim
    ·have nU:b= !want:=by cases b<;>cases want<;>simp_all
     have o8:=h2 nU
     subst nU
     rw[j7 o7]at o8
     refine nv G [] fr a Wb Ky Sr o7 (fun t ht=>by simp at ht) ha fun a' ew=>?_
     exact fm a' w _ ew hw (dc G fr) o8
   case false=>
    obtain⟨b,o7,h1,h2⟩:=h
    by_cases QV:b=want
    ·subst QV
     have x8:=h1 rfl
     rw[j7 o7]at x8
     refine cK f q o.guard _ G fr H _ KP x8 ?_ (hkn.put o7) a w ha hw (R++rest) Q ?_ hp
     ·rw[VZ];exact⟨s,jP,o7,Ky⟩
     ·intro a' w' o6 fr' H' g1 g2 g3 g5 g4
      refine cK f q cur o6 R fr' H' K KP g4 (mL fr' g3) g5 a' w' g1 g2 rest Q (fun a2 w2 B3 rN H2 k1 k2 k3 k5 k4=>hk a2 w2 B3 rN H2 k1 k2 ?_ k5 k4) hp
      intro x hx
      have hx':=hx
      rw[←GI,cm,Bool.or_eq_false_iff]at hx'
      rw[k3 x hx'.2,g3 x hx'.1]
    ·have nU:b= !want:=by cases b<;>cases want<;>simp_all
     have o8:=h2 nU
     subst nU
     rw[j7 o7]at o8
     refine nv G [] fr a Wb Ky Sr o7 (fun t ht=>by simp at ht) ha fun a' ew=>?_
     refine cK f q cur _ R _ H K KP o8 (mL _ (dc G fr)) ((IE _ (dc G fr)).put (by rw[dc G fr s Ky,o7])) a' w ew hw rest Q (fun a2 w2 B3 rN H2 k1 k2 k3 k5 k4=>hk a2 w2 B3 rN H2 k1 k2 ?_ k5 k4) hp
     intro x hx
     have hx':=hx
     rw[←GI,cm,Bool.or_eq_false_iff]at hx'
     rw[k3 x hx'.2,dc G fr x hx'.1]
theorem dI{n:Nat}{ops:Array Oper}{gq:Bool}:∀(f:Nat) (cur:Option (Nat×Bool)) (kn:List (Nat×Bool)) (l:List Oper) (fr:Fr) (H:Hp) (K:List (Nat×Bool)→Fr→Hp→Prop) (KP:List PanicEntry→Hp→Prop),
  eO P g n ops gq f true cur kn l fr H K KP→kO ops cur l fr→iC kn fr→∀(a:Act),cD ds n a fr→∀(rest:List Oper) (Q:Act→Prop),
  (∀a' o6 fr',cD ds n a' fr'→eE l fr fr'→iC o6 fr'→K o6 fr' H→wpQuiet P ops (Own g H) Q rest a')→wpQuiet P ops (Own g H) Q (l++rest) a
 |0,_,_,_,_,_,_,_,h=>h.elim
 |f+1,cur,kn,[],fr,H,K,KP,h=>fun _ hkn a ha rest Q hk=>hk a kn fr ha (eE.refl _ _) hkn h
 |f+1,cur,kn,o::r,fr,H,K,KP,h=>by
  intro r8 hkn a ha rest Q hk
  unfold eO at h
  cases Xv:cE o.guard cur<;>simp only[Xv,cond_true,cond_false]at h
  case true=>
   have hg:=iP Xv
   have n7:=r8.wanted hg ha
   cases hd:eA n o.dst<;>simp only[hd,cond_true,cond_false]at h
   simp only[List.cons_append,wpQuiet,n7,if_true]
   cases xX:tH o.op<;>simp only[xX,cond_true,cond_false]at h
   case true=>
    obtain⟨v,hk',hr,hv⟩:=nB h
    refine⟨v,fun w hw=>?_,?_⟩
    ·unfold Oper.quietAt
     rw[ha.eval,hr w hw]
     exact⟨rfl,rfl⟩
    ·exact dI f cur _ r _ H K KP hk' (r8.tail fun s hs=>fU hs) (hkn.up hv) _ (ha.put hd v) rest Q (fun a' o6 fr' h1 h3 h5 h4=>hk a' o6 fr' h1 h3.cons h5 h4)
   case false=>
    obtain⟨v,f',args,hr,hs,hk'⟩:=Gs h
    refine⟨v,fun w hw=>?_,?_⟩
    ·unfold Oper.quietAt
     rw[ha.eval,hr w]
     refine⟨rfl,(hs w hw).mono fun e w'' ⟨H',ho,he,hH⟩=>?_⟩
     subst hH
     exact⟨he,ho⟩
    ·exact dI f cur _ r _ H K KP hk' (r8.tail fun s hs=>fU hs) (hkn.del _ _) _ (ha.put hd v) rest Q (fun a' o6 fr' h1 h3 h5 h4=>hk a' o6 fr' h1 h3.cons h5 h4)
  case false=>
   split at h<;>try exact h.elim
   rename_i j want VZ
   split at h<;>try exact h.elim
   rename_i s jP
   generalize hG:gO cur (o::r)=G at h
   generalize hR:iL cur (o::r)=R at h
   have GI:G++R=o::r:=by rw[←hG,←hR];exact ry _ _
   cases fo:(eA n (some s) &&iy n G&& !bP G s&&mu ops s want [] G)<;>simp only[fo,cond_true,cond_false]at h
   simp only[Bool.and_eq_true,Bool.not_eq_true']at fo
   obtain⟨⟨⟨hds,Wb⟩,Ky⟩,Sr⟩:=fo
   rw[←GI,List.append_assoc]
   have mL:∀fr',eE G fr fr'→kO ops cur R fr':=fun fr' ho=>by
    unfold kO at r8⊢
    split
    ·trivial
    ·obtain⟨t,h1,h2,h3⟩:=r8
     have yN:=h3
     rw[←GI,cm,Bool.or_eq_false_iff]at yN
     exact⟨t,h1,(ho t yN.1).trans h2,yN.2⟩
   have IE:∀fr',eE G fr fr'→iC (lj kn G) fr':=fun fr' ho=>hkn.YZ G ho
   split at h
   ·rename_i b hb
    have o7:=hkn s b hb
    cases QV:(b==want)<;>simp only[QV,cond_true,cond_false]at h
    ·have nU:b= !want:=by cases b<;>cases want<;>simp_all
     subst nU
     refine ow G [] fr a Wb Ky Sr o7 (fun t ht=>by simp at ht) ha fun a' ew=>?_
     refine dI f cur _ R _ H K KP h (mL _ (dc G fr)) (IE _ (dc G fr)) a' ew rest Q (fun a2 B3 rN k1 k3 k5 k4=>hk a2 B3 rN k1 ?_ k5 k4)
     intro x hx
     have hx':=hx
     rw[←GI,cm,Bool.or_eq_false_iff]at hx'
     rw[k3 x hx'.2,dc G fr x hx'.1]
    ·have nU:b=want:=by cases b<;>cases want<;>simp_all
     subst nU
     refine dI f o.guard kn G fr H _ KP h ?_ hkn a ha (R++rest) Q ?_
     ·rw[VZ];exact⟨s,jP,o7,Ky⟩
     ·intro a' o6 fr' g1 g3 g5 g4
      refine dI f cur o6 R fr' H K KP g4 (mL fr' g3) g5 a' g1 rest Q (fun a2 B3 rN k1 k3 k5 k4=>hk a2 B3 rN k1 ?_ k5 k4)
      intro x hx
      have hx':=hx
      rw[←GI,cm,Bool.or_eq_false_iff]at hx'
      rw[k3 x hx'.2,g3 x hx'.1]
   rename_i UN
   simp only[Bool.true_or,cond_true]at h
   split at h<;>try exact h.elim
   rename_i p r' 
   have hpg:cE p.guard cur=true:=by
    have:∀l:List Oper,iL cur l=p::r'→cE p.guard cur=true:=by
     intro l
     induction l with
     |nil=>intro e;simp[iL]at e
     |cons x y ih=>
      intro e
      simp only[iL]at e
      cases hx:cE x.guard cur<;>simp only[hx,cond_true,cond_false]at e
      ·exact ih e
      ·simp only[List.cons.injEq]at e;rw[←e.1];exact hx
    exact this _ hR
   cases hpk:(qH p&&eA n p.dst)<;>simp only[hpk,cond_true,cond_false]at h
   simp only[Bool.and_eq_true]at hpk
   obtain⟨b,t,o7,h1,h2,h3⟩:=h
   have fm:∀(a':Act) (fr':Fr),cD ds n a' fr'→eE G fr fr'→oJ p fr'=.bool t→wpQuiet P ops (Own g H) Q (p::r'++rest) a':=by
    intro a' fr' ew ho UF
    have n7:=(mL fr' ho).wanted (iP hpg) ew
    simp only[List.cons_append,wpQuiet,n7,if_true]
    refine⟨.bool t,fun w hw=>?_,?_⟩
    ·unfold Oper.quietAt
     rw[ew.eval,oI hpk.1 UF w]
     exact⟨rfl,rfl⟩
    have M8:ya G fr' fr=fr':=by
     funext x
     simp only[ya]
     cases hx:bP G x
     ·exact(ho x hx).symm
     ·rfl
    have yN:=h3 fr'
    rw[M8]at yN
    refine dI f cur _ r' _ H K KP yN ((mL fr' ho).tail fun s hs=>fU hs) ((IE fr' ho).del _ _) _ (ew.put hpk.2 _) rest Q (fun a2 B3 rN g1 g3 g5 g4=>hk a2 B3 rN g1 ?_ g5 g4)
    intro x hx
    have hx':=hx
    rw[←GI,cm,Bool.or_eq_false_iff,dD,Bool.or_eq_false_iff]at hx'
    rw[g3 x hx'.2.2,fU hx'.2.1,ho x hx'.1]
   by_cases QV:b=want
   ·subst QV
    have x8:=h1 rfl
    rw[j7 o7]at x8
    refine dI f o.guard _ G fr H _ _ x8 ?_ (hkn.put o7) a ha (p::r'++rest) Q ?_
    ·rw[VZ];exact⟨s,jP,o7,Ky⟩
    ·intro a' o6 fr' g1 g3 _ ⟨_,g5⟩
     exact fm a' fr' g1 g3 g5
   ·have nU:b= !want:=by cases b<;>cases want<;>simp_all
    have o8:=h2 nU
    subst nU
    rw[j7 o7]at o8
    refine ow G [] fr a Wb Ky Sr o7 (fun t ht=>by simp at ht) ha fun a' ew=>?_
    exact fm a' _ ew (dc G fr) o8
end
end Go.Sx
namespace Go.Sx
open Go
section
variable {P:Program} {ops:Array Oper} {Q:Exit→Act→World→Prop} {md:Region.Mode} {S:Nat→World→World→Prop} {S0:World→Prop}
def dm(P:Program)(md:Region.Mode)(ops:Array Oper)(Q:Exit→Act→World→Prop)(S:Nat→World→World→Prop):Nat→Array Bool→Act→World→Prop
 |0,listed,a,w=>Region.ready md ops listed=[]∧Q .normal a w
 |n+1,listed,a,w=>(Region.ready md ops listed=[]→Q .normal a w)∧
  ∀i∈Region.ready md ops listed,wpOp P ops Q i (fun a' w'=>S i w w'∧dm P md ops Q S n (listed.setIfInBounds i true) a' w') a w
theorem dm.any:∀{n:Nat} {listed:Array Bool} {a:Act} {w:World},dm P md ops Q S n listed a w→wpAny P md ops Q n listed a w
 |0,_,_,_,h=>h
 |_+1,_,_,_,h=>⟨h.1,fun i hi=>wpOp_mono (fun _ _ h'=>h'.2.any) (h.2 i hi)⟩
def Mb(md:Region.Mode)(ops:Array Oper)(i j:Nat):Prop:=∀oj,ops[j]? =some oj→∀e∈oj.after,Region.binds md e=true→e.on≠i
def fb(md:Region.Mode)(ops:Array Oper)(listed:Array Bool):Prop:=∀j oj,ops[j]? =some oj→listed.getD j true=true→∀e∈oj.after,Region.binds md e=true→listed.getD e.on true=true
inductive nh(md:Region.Mode)(ops:Array Oper)(i:Nat):Nat→Prop
 |one {j:Nat} {oj:Oper} {e:Edge}:ops[j]? =some oj→e∈oj.after→Region.binds md e=true→e.on=i→nh md ops i j
 |more {j:Nat} {oj:Oper} {e:Edge}:ops[j]? =some oj→e∈oj.after→Region.binds md e=true→nh md ops i e.on→nh md ops i j
theorem x9{a:Array Bool}{i:Nat}(h:a.getD i false=true):a.getD i true=true:=by
 rw[Array.getD_eq_getD_getElem?]at*
 cases hg:a[i]? with
 |none=>rfl
 |some b=>rw[hg]at h;simpa using h
theorem rM{a:Array Bool}{i k:Nat}(h:a.getD k true=true):(a.setIfInBounds i true).getD k true=true:=by
 by_cases e:i=k
 ·subst e
  rw[Array.getD_eq_getD_getElem?,Array.getElem?_setIfInBounds_self]
  split<;>rfl
 ·rw[getD_set_ne true e];exact h
theorem fb.waits{listed:Array Bool}(hc:fb md ops listed){i j:Nat}(h:nh md ops i j):listed.getD j true=true→listed.getD i true=true:=by
 induction h with
 |one h1 h2 h3 h4=>intro h;rw[←h4];exact hc _ _ h1 h _ h2 h3
 |more h1 h2 h3 _ ih=>intro h;exact ih (hc _ _ h1 h _ h2 h3)
theorem fb.ready{listed:Array Bool}(hc:fb md ops listed){i j:Nat}(hj:j∈Region.ready md ops listed)(h:nh md ops i j):listed.getD i true=true:=by
 obtain⟨_,oj,iK,aK⟩:=mem_ready.1 hj
 cases h with
 |one h1 h2 h3 h4=>rw[iK]at h1;cases h1;rw[←h4];exact x9 (aK _ h2 h3)
 |more h1 h2 h3 h4=>rw[iK]at h1;cases h1;exact hc.waits h4 (x9 (aK _ h2 h3))
theorem fb.step{listed:Array Bool}(hc:fb md ops listed){j:Nat}(hj:j∈Region.ready md ops listed):fb md ops (listed.setIfInBounds j true):=by
 intro k ok hk hl e he hb
 by_cases SF:j=k
 ·subst SF
  obtain⟨_,oj,iK,aK⟩:=mem_ready.1 hj
  rw[hk]at iK;cases iK
  exact rM (x9 (aK e he hb))
 ·rw[getD_set_ne true SF]at hl
  exact rM (hc k ok hk hl e he hb)
theorem fb.none(n:Nat)(h:ops.size=n):fb md ops (Array.replicate n false):=by
 intro j oj hj hl
 exfalso
 have hlt:=(Array.getElem?_eq_some_iff.1 hj).1
 rw[Array.getD_eq_getD_getElem?,Array.getElem?_replicate,if_pos (by omega)]at hl
 cases hl
theorem dm.first{i:Nat}{oi:Oper}{v:Value}(hi:ops[i]? =some oi)(hsel:Region.noSelect ops=true)(hQ:∀c a w,Q (.panic c) (a.put oi.dst v) w→Q (.panic c) a w)
 (hSi:∀w,S0 w→S i w w)(hS:∀j oj w w',ops[j]? =some oj→j≠i→¬nh md ops i j→S0 w→S j w w'→S0 w'):∀(n:Nat) (listed:Array Bool) (a:Act) (w:World),fb md ops listed→
   (∀j oj,ops[j]? =some oj→j≠i→listed.getD j true=false→Mb md ops i j→oi.apart ops oj=true)→i∈Region.ready md ops listed→YieldsIf P ops S0 oi v a→S0 w→
   dm P md ops Q S n (listed.setIfInBounds i true) (a.put oi.dst v) w→dm P md ops Q S (n+1) listed a w:=by
 have sel:=Region.noSelect_spec hsel
 intro n
 induction n with
 |zero=>
  intro listed a w hc hfree hr hy h0 h
  refine⟨fun e=>absurd hr (by rw[e];simp),fun j hj=>?_⟩
  by_cases e:j=i
  ·rw[e];exact hy.wpOp hi h0 ⟨hSi _ h0,h⟩
  ·exact absurd (ready_mono hj e) (by rw[h.1];simp)
 |succ n ih=>
  intro listed a w hc hfree hr hy h0 h
  refine⟨fun e=>absurd hr (by rw[e];simp),fun j hj=>?_⟩
  by_cases e:j=i
  ·rw[e];exact hy.wpOp hi h0 ⟨hSi _ h0,h⟩
  ·obtain⟨hun,oj,iK,aK⟩:=mem_ready.1 hj
   have hno:Mb md ops i j:=fun o ho x hx hb he=>by
    rw[iK]at ho;cases ho
    have h1:=aK x hx hb
    have h2:=(mem_ready.1 hr).1
    rw[he]at h1
    rw[Array.getD_eq_getD_getElem?]at h1 h2
    cases hg:listed[i]? with
    |none=>rw[hg]at h1;simp at h1
    |some y=>rw[hg]at h1 h2;simp at h1 h2;rw[h2]at h1;cases h1
   have XK:¬nh md ops i j:=fun hw=>by
    have h1:=hc.ready hj hw
    rw[(mem_ready.1 hr).1]at h1;cases h1
   refine wpOp_mono ?_ (wpOp_putIf iK (hfree j oj iK e hun hno) (fun cs b=>sel i oi cs b hi) (fun cs b=>sel j oj cs b iK) hQ hy (h.2 j (ready_mono hj e)))
   rintro a' w' ⟨hy',hs',iJ⟩
   refine⟨hs',ih _ _ _ (hc.step hj) (fun k ok hk UP QB ID=>hfree k ok hk UP ?_ ID) (ready_mono hr (Ne.symm e)) hy' (hS j oj w w' iK e XK h0 hs') (by rw[Array.setIfInBounds_comm _ _ e];exact iJ)⟩
   by_cases SF:j=k
   ·rw[←SF];exact hun
   ·rw[←QB,getD_set_ne true SF]
theorem dm.take{i:Nat}{oi:Oper}{v:Value}{n:Nat}{listed:Array Bool}{a:Act}{w:World}(hc:fb md ops listed)(hi:ops[i]? =some oi)(hsel:Region.noSelect ops=true)(hf:Region.free md ops listed i=true)
 (hr:(Region.ready md ops listed).contains i=true)(hQ:∀c a w,Q (.panic c) (a.put oi.dst v) w→Q (.panic c) a w)(hSi:∀w,S0 w→S i w w)(hS:∀j oj w w',ops[j]? =some oj→j≠i→¬nh md ops i j→S0 w→S j w w'→S0 w')
 (hy:YieldsIf P ops S0 oi v a)(h0:S0 w)(h:dm P md ops Q S n (listed.setIfInBounds i true) (a.put oi.dst v) w):dm P md ops Q S (n+1) listed a w:=
 dm.first hi hsel hQ hSi hS n listed a w hc (fun j oj h1 h2 h3 h4=>Region.free_spec hi hf j oj h1 h2 h3 (h4 oj h1)) (by simpa using hr) hy h0 h
theorem dm.all{rs:List Nat}{n:Nat}{listed:Array Bool}{a:Act}{w:World}(hr:Region.ready md ops listed=rs)(hne:rs≠[])
 (h:∀i∈rs,wpOp P ops Q i (fun a' w'=>S i w w'∧dm P md ops Q S n (listed.setIfInBounds i true) a' w') a w):dm P md ops Q S (n+1) listed a w:=
 ⟨fun h0=>absurd (hr▸h0) hne,hr▸h⟩
theorem dm.done{listed:Array Bool}{a:Act}{w:World}(hr:Region.ready md ops listed=[])(h:Q .normal a w):∀n,dm P md ops Q S n listed a w
 |0=>⟨hr,h⟩
 |_+1=>⟨fun _=>h,by rw[hr];simp⟩
def onB(j:Oper)(i:Nat):Bool:=j.after.toList.any fun e=>Nat.beq e.on i&&Region.binds .any e
def Xh(P:Program):Op→Bool
 | .move _| .assign _| .pick .. | .nilCheck _| .fieldAddr .. | .field .. | .indexAddr .. | .unOp .. =>true
 | .slice t _ _ _ none=>match P.underlying t with|some (.slice _)=>true|_=>false
 | .binOp _ t _ _ _=>match P.underlying t with
  |some d=>match yo d with| .other=>false|_=>true
  |none=>true
 |_=>false
theorem zn{g:Gh}{o:Oper}(h:Xh P o.op=true)(ρ:Operand→Value)(H H':Hp)(k:Value→Prop):AY P g o ρ H k=AY P g o ρ H' k:=by
 obtain⟨d,op,t,p,a,gd⟩:=o
 cases op<;>first|rfl|(simp only[Xh]at h;first|cases h|skip)
 case binOp op t x y z=>
  simp only[AY]
  cases hu:P.underlying t with
  |none=>rfl
  |some d=>
   simp only[hu]at h
   cases hb:yo d<;>simp only[hb]at h⊢
   cases h
 case slice t x lo hi m=>
  cases m with
  |none=>
   simp only[AY]
   cases hu:P.underlying t with
   |none=>simp[hu]at h
   |some d=>cases d<;>first|rfl|(exfalso;simp[hu]at h)
  |some m=>cases h
def vq(P:Program)(o:Op):Bool:=tH o&& !Xh P o
def Gv(P:Program)(ops:Array Oper)(j:Nat):Bool:=match ops[j]? with
 |some oj=>(List.range ops.size).any fun i=>match ops[i]? with|some oi=>vq P oi.op&& !onB oj i&& !Nat.beq i j|none=>false
 |none=>true
def om(ops:Array Oper)(i:Nat):Nat→Nat→Bool
 |0,_=>false
 |n+1,j=>match ops[j]? with
  |some oj=>oj.after.toList.any fun e=>Region.binds .any e&& (Nat.beq e.on i||om ops i n e.on)
  |none=>false
theorem rh{i:Nat}:∀{n j:Nat},om ops i n j=true→nh .any ops i j
 |0,j,h=>by simp[om]at h
 |n+1,j,h=>by
  unfold om at h
  split at h
  ·rename_i oj iK
   obtain⟨e,he,h2⟩:=List.any_eq_true.1 h
   simp only[Bool.and_eq_true,Bool.or_eq_true]at h2
   rcases h2.2 with h3|h3
   ·exact .one iK (Array.mem_toList_iff.1 he) h2.1 (Nat.eq_of_beq_eq_true h3)
   ·exact .more iK (Array.mem_toList_iff.1 he) h2.1 (rh h3)
  ·cases h
def rF(P:Program)(ops:Array Oper)(j:Nat):Bool:=(List.range ops.size).any fun i=>match ops[i]? with|some oi=>vq P oi.op&& !om ops i 6 j&& !Nat.beq i j|none=>false
def oh(P:Program)(g:Gh)(R:Hp)(ops:Array Oper)(j:Nat)(w w':World):Prop:=∀oj,ops[j]? =some oj→(tH oj.op=true→w'=w)∧(tH oj.op=false→Own g [] w'∧(rF P ops j=true→Own g R w→Own g R w'))
theorem k8{i j:Nat}{oi:Oper}(hi:ops[i]? =some oi)(hp:vq P oi.op=true)(hne:j≠i)(h:¬nh .any ops i j):rF P ops j=true:=by
 unfold rF
 rw[List.any_eq_true]
 refine⟨i,List.mem_range.2 (Array.getElem?_eq_some_iff.1 hi).1,?_⟩
 simp only[hi,hp,Bool.true_and,Bool.and_eq_true,Bool.not_eq_true']
 refine⟨?_,?_⟩
 ·cases hb:om ops i 6 j
  ·rfl
  ·exact absurd (rh hb) h
 ·cases hb:Nat.beq i j
  ·rfl
  ·exact absurd (Nat.eq_of_beq_eq_true hb).symm hne
theorem tA{j:Nat}(h:rF P ops j=true):Gv P ops j=true:=by
 unfold rF at h
 obtain⟨i,hi,h2⟩:=List.any_eq_true.1 h
 unfold Gv
 split
 ·rename_i oj iK
  refine List.any_eq_true.2 ⟨i,hi,?_⟩
  split at h2
  ·rename_i oi jA
   simp only[Bool.and_eq_true,Bool.not_eq_true']at h2⊢
   refine⟨⟨h2.1.1,?_⟩,h2.2⟩
   cases hb:onB oj i
   ·rfl
   ·have h3:=h2.1.2
    unfold om at h3
    simp only[iK]at h3
    unfold onB at hb
    obtain⟨e,he,h4⟩:=List.any_eq_true.1 hb
    rw[←Bool.not_eq_true,List.any_eq_true]at h3
    refine absurd ⟨e,he,?_⟩ h3
    simp only[Bool.and_eq_true,Bool.or_eq_true]at h4⊢
    exact⟨h4.2,.inl h4.1⟩
  ·cases h2
 ·rfl
end
end Go.Sx
namespace Go.Sx
open Go
section
variable {P:Program} {g:Gh} {ds:List Deferred}
def Hg(b:Bool)(p q:Prop):Prop:=cond b (p∧q) q
theorem Hg.of{b:Bool}{p q:Prop}(h:Hg b p q):(b=true→p)∧q:=by
  cases b
  · exact⟨fun e=>(by cases e),h⟩
  · exact⟨fun _=>h.1,h.2⟩
def Mf(P:Program)(ops:Array Oper)(T:List Nat)(i:Nat):Bool:=cond T.isEmpty (Gv P ops i) (rF P ops i)
theorem Me{ops:Array Oper}{T:List Nat}{i:Nat}(h:rF P ops i=true):Mf P ops T i=true:=by
  unfold Mf
  cases T.isEmpty
  · exact h
  · exact tA h
def Jb(P:Program)(g:Gh)(n:Nat)(ops:Array Oper)(R:Hp)(K:Fr→Hp→Prop):List Nat→Array Bool→Fr→Hp→Prop
  | [],listed,fr,H=>cond (Region.ready .any ops listed).isEmpty (K fr H) False
  |i::r,listed,fr,H=>
    match ops[i]? with
    |none=>False
    |some o=>
      cond (eA n o.dst&&o.guard.isNone)
        (cond (tH o.op)
          (cond (Region.free .any ops listed i&& (Region.ready .any ops listed).contains i)
            (AY P g o (ev fr) R fun v=>Jb P g n ops R K r (listed.setIfInBounds i true) (cz fr o.dst v) H) False)
          (cond (Region.ready .any ops listed==[i])
            (O1 P g o (ev fr) H (fun v H'=>Hg (Gv P ops i) (aO H' R) (Jb P g n ops R K r (listed.setIfInBounds i true) (cz fr o.dst v) H')) (fun _ _=>False)) False)) False
def qf(Q:Exit→Act→World→Prop):Exit→Act→World→Prop
  | .panic _,_,_=>False
  |e,a,w=>Q e a w
theorem jJ{o:Oper}(h:o.guard.isNone=true)(y:Nat→Option Bool):Region.wanted o y=true:=by
  unfold Region.wanted
  cases hg:o.guard<;>simp_all
theorem Own.kW{g:Gh}{H:Hp}{w:World}(h:Own g H w):Own g [] w:=Own.right (A:=H) (B:=[]) (by simpa using h)
theorem gm{listed:Array Bool}{i k:Nat}(hun:listed.getD i true=false)(h:(listed.setIfInBounds i true).getD k true=false):listed.getD k true=false:=by
  by_cases e:i=k
  · rw[←e];exact hun
  · rwa [getD_set_ne true e]at h
theorem p7{n:Nat}{ops:Array Oper}{R:Hp}{K:Fr→Hp→Prop}{Q:Exit→Act→World→Prop}(hs:Region.noSelect ops=true)(wC:Fr)
   (hk:∀a w fr H,cD ds n a fr→Own g H w→eE ops.toList wC fr→K fr H→Q .normal a w):
    ∀(l:List Nat) (listed:Array Bool) (fr:Fr) (H:Hp),Jb P g n ops R K l listed fr H→∀(fuel:Nat),l.length≤fuel→fb .any ops listed→∀(a:Act) (w:World),cD ds n a fr→Own g H w→((∃k ok,ops[k]? =some ok∧vq P ok.op=true∧listed.getD k true=false)→Own g R w)→eE ops.toList wC fr→
      dm P .any ops (qf Q) (oh P g R ops) fuel listed a w
  | [],listed,fr,H,h=>by
    intro fuel _ jl a w ha hw hR ho
    unfold Jb at h
    cases hr:(Region.ready .any ops listed).isEmpty<;>simp only[hr,cond_true,cond_false]at h
    exact dm.done (Q:=qf Q) (by simpa using hr) (hk a w fr H ha hw ho h) fuel
  |i::r,listed,fr,H,h=>by
    intro fuel hfuel jl a w ha hw hR ho
    unfold Jb at h
    split at h<;>try exact h.elim
    rename_i o jA
    have hmem:o∈ops.toList:=Array.mem_toList_iff.2 (Array.mem_of_getElem? jA)
    have hout:∀v,eE ops.toList wC (cz fr o.dst v):=fun v s hs'=>by
      rw[fU,ho s hs']
      have:∀l:List Oper,o∈l→bP l s=false→bP [({(default:Oper)with dst:=o.dst})] s=false:=by
        intro l
        induction l with
        |nil=>intro h;simp at h
        |cons x y ih=>
          intro hm hi
          rw[dD,Bool.or_eq_false_iff]at hi
          rcases List.mem_cons.1 hm with rfl|hm
          · exact hi.1
          · exact ih hm hi.2
      exact this _ hmem hs'
    cases hc:(eA n o.dst&&o.guard.isNone)<;>simp only[hc,cond_true,cond_false]at h
    simp only[Bool.and_eq_true]at hc
    obtain⟨fuel,rfl⟩:∃f,fuel=f+1:=⟨fuel-1,by simp only[List.length_cons]at hfuel;omega⟩
    have Co:r.length≤fuel:=by simp only[List.length_cons]at hfuel;omega
    cases xX:tH o.op<;>simp only[xX,cond_true,cond_false]at h
    case true=>
      cases l9:(Region.free .any ops listed i&& (Region.ready .any ops listed).contains i)<;>simp only[l9,cond_true,cond_false]at h
      simp only[Bool.and_eq_true]at l9
      have hun:=(mem_ready.1 (by simpa using l9.2:i∈Region.ready .any ops listed)).1
      have mJ:∀w,oh P g R ops i w w:=fun w oj lX=>⟨fun _=>rfl,fun hn=>(by rw[jA]at lX;cases lX;rw[xX]at hn;cases hn)⟩
      cases hn:Xh P o.op
      case true=>
        rw[zn hn (ev fr) R []]at h
        obtain⟨v,hk',hr⟩:=kj h
        refine dm.take jl (S0:=Own g []) jA hs l9.1 l9.2 (fun _ _ _ h=>h) (fun w _=>mJ w) (fun j oj w w' iK hj hno h0 hk=>?_) (.inl ⟨jJ hc.2 _,fun w' dx=>by rw[ha.eval];exact hr w' dx⟩) hw.kW ?_
        · cases xV:tH oj.op
          · exact((hk oj iK).2 xV).1
          · rw[(hk oj iK).1 xV];exact h0
        · refine p7 hs wC hk r _ _ H hk' fuel Co (jl.step (by simpa using l9.2)) _ w (ha.put hc.1 v) hw ?_ (hout v)
          rintro⟨k,ok,xW,u6,sA⟩
          exact hR ⟨k,ok,xW,u6,gm hun sA⟩
      case false=>
        obtain⟨v,hk',hr⟩:=kj h
        have hrd:vq P o.op=true:=by simp[vq,xX,hn]
        have U5:Own g R w:=hR ⟨i,o,jA,hrd,hun⟩
        refine dm.take jl (S0:=Own g R) jA hs l9.1 l9.2 (fun _ _ _ h=>h) (fun w _=>mJ w) (fun j oj w w' iK hj hno h0 hk=>?_) (.inl ⟨jJ hc.2 _,fun w' dx=>by rw[ha.eval];exact hr w' dx⟩) U5 ?_
        · cases xV:tH oj.op
          · exact((hk oj iK).2 xV).2 (k8 jA hrd hj hno) h0
          · rw[(hk oj iK).1 xV];exact h0
        · exact p7 hs wC hk r _ _ H hk' fuel Co (jl.step (by simpa using l9.2)) _ w (ha.put hc.1 v) hw (fun _=>U5) (hout v)
    case false=>
      cases l9:(Region.ready .any ops listed==[i])<;>simp only[l9,cond_true,cond_false]at h
      have hrd:=beq_iff_eq.1 l9
      have xU:i∈Region.ready .any ops listed:=by rw[hrd];simp
      refine dm.all hrd (by simp) fun j hj=>?_
      simp only[List.mem_singleton]at hj
      subst hj
      unfold wpOp
      simp only[jA,jJ hc.2,if_true]
      refine .inl ?_
      unfold Oper.wp
      rw[ha.eval]
      refine(tu (nJ fr) h w hw).upon (fun v H' w' bX hb=>?_) (fun ch H' w' _ h0=>h0.elim)
      obtain⟨he,hk'⟩:=hb.of
      refine⟨fun oj lX=>⟨fun hp=>(by rw[jA]at lX;cases lX;rw[xX]at hp;cases hp),fun _=>⟨bX.kW,fun hn _=>he (tA hn) _ _ bX⟩⟩,p7 hs wC hk r _ _ H' hk' fuel Co (jl.step xU) _ w' (ha.put hc.1 v) bX ?_ (hout v)⟩
      rintro⟨k,ok,xW,u6,sA⟩
      refine he (tA ?_) _ _ bX
      have UP:j≠k:=fun e=>by
        subst e
        rw[Array.getD_eq_getD_getElem?,Array.getElem?_setIfInBounds_self]at sA
        have:=(mem_ready.1 xU).1
        rw[Array.getD_eq_getD_getElem?]at this
        split at sA
        · simp at sA
        · rename_i hlt;rw[Array.getElem?_eq_none (by omega)]at this;simp at this
      rw[getD_set_ne true UP]at sA
      refine k8 xW u6 UP fun hw=>?_
      rw[jl.ready xU hw]at sA;cases sA
abbrev Mk:=Obj×(Nat→Value)
def OD(elem size bytes:Nat)(zero:Value)(l c:Value)(k:Mk→Prop):Prop:=
  ∃kl kc ln cn,l=.int kl (ln:Nat)∧c=.int kc (cn:Nat)∧ln≤cn∧(cn:Int)≤9223372036854775807∧cn*bytes≤281474976710656∧
    k (.cells (madeCells zero.cells (cn*size)) elem (0,0),fun b=>.slice (some ⟨b,0,none⟩) ln cn)
def OR(P:Program)(t len:Nat)(parts:List (Nat×Value))(k:Mk→Prop):Prop:=
  ∃cs e n z,P.underlying t=some (.slice e)∧dO P e=some n∧fu P e=some z∧len*n≤2^24∧
      Instr.fill (fun i=>some (i*n,n)) ((Array.range (len*n)).map (z.cells[· %z.cells.size]!)) parts=some cs∧k (.cells cs e (0,0),fun b=>.slice (some ⟨b,0,none⟩) len len)
def Claim(P:Program)(o:Oper)(ρ:Operand→Value)(k:Mk→Prop):Prop:=
  match o.op with
  | .alloc t=>match fu P t with
    |some z=>k (.cells z.cells t (0,0),fun b=>.pointer (some ⟨b,0,none⟩))
    |none=>False
  | .makeMap _ none=>k (.map #[] 0,fun b=>.map (some b))
  | .makeSlice t l c=>match P.underlying t with
    |some (.slice e)=>match dO P e,um P e,fu P e with
      |some n,some b,some z=>OD e n b z (ρ l) (ρ c) k
      |_,_,_=>False
    |_=>False
  | .buildSlice t len parts=>OR P t len (parts.toList.map fun p=>(p.1,ρ p.2)) k
  |_=>False
def wT(P:Program)(o:Oper)(ρ:Operand→Value)(x:Mk):Prop:=∀w,(execOp ρ o).run P w=.ok (.value (x.2 w.heap.size)) (w.alloc x.1)
theorem Claim.makes{o:Oper}{ρ:Operand→Value}{k:Mk→Prop}(h:Claim P o ρ k):∃x,wT P o ρ x∧k x:=by
  unfold Claim at h
  split at h
  · rename_i t hop
    split at h<;>try exact h.elim
    rename_i z hz
    obtain⟨i,hi,vx⟩:=de hz
    refine⟨_,fun w=>?_,h⟩
    simp only[execOp,hop]
    simp[Instr.alloc,eZ hi vx,newVar,newRow]
  · rename_i t hop
    refine⟨_,fun w=>?_,h⟩
    simp only[execOp,hop]
    simp[Instr.makeMap]
  · rename_i t l c hop
    split at h<;>try exact h.elim
    rename_i e ht
    split at h<;>try exact h.elim
    rename_i n b z hn hb hz
    obtain⟨i,hi,hin⟩:=bU hn
    obtain⟨i',hi',vx⟩:=de hz
    obtain⟨i2,Cn,tM⟩:=mT hb
    have e1:i'=i:=Option.some.inj (hi'.symm.trans hi)
    have e2:i2=i:=Option.some.inj (Cn.symm.trans hi)
    subst e1;subst e2
    obtain⟨kl,kc,ln,cn,hl,hc,hlc,bE,hby,hk⟩:=h
    subst hin;subst tM
    refine⟨_,fun w=>?_,hk⟩
    have e1:IntKind.i64.wrap (ln:Int)=ln:=IntWalk.i64_in _ (by omega)
    have e2:IntKind.i64.wrap (cn:Int)=cn:=IntWalk.i64_in _ (by omega)
    have e3:¬((i2.bytes:Int)*(cn:Int)>281474976710656):=by
      have:((cn*i2.bytes:Nat):Int)≤281474976710656:=by omega
      rw[Int.mul_comm];push_cast at this;omega
    have e4:¬((cn:Int)<ln):=by omega
    simp only[execOp,hop]
    by_cases h0:cn*i2.size=0
    · simp[Instr.makeSlice,run_underlying ht,asInt,asIntOf,typeInfo,hi,hl,hc,e1,e2,e3,e4,sizeOf,zeroValue,vx,newRow,madeCells,h0,show¬((cn:Int)<0)from by omega,show¬((ln:Int)<0)from by omega]
      have:Array.range 0=#[]:=rfl
      simp[this]
    · simp[Instr.makeSlice,run_underlying ht,asInt,asIntOf,typeInfo,hi,hl,hc,e1,e2,e3,e4,sizeOf,zeroValue,vx,newRow,madeCells,h0,show¬((cn:Int)<0)from by omega,show¬((ln:Int)<0)from by omega]
  · rename_i t len parts hop
    obtain⟨cs,e,n,z,ht,hn,hz,hl,hf,hk⟩:=h
    obtain⟨i,hi,hin⟩:=bU hn
    obtain⟨i',hi',vx⟩:=de hz
    have:i'=i:=Option.some.inj (hi'.symm.trans hi)
    subst this
    subst hin
    refine⟨_,fun w=>?_,hk⟩
    have hl':¬(len*i'.size>2^24):=by omega
    have qJ:(parts.map fun(x:Nat×Operand)=>(x.1,ρ x.2)).toList=parts.toList.map fun p=>(p.1,ρ p.2):=by rw[Array.toList_map]
    by_cases h0:len*i'.size=0
    · simp only[execOp,hop,Instr.buildSlice,Sem.run_bind,run_underlying ht,Result.andThen_ok,run_sizeOf hi,hl',if_false,h0,if_true,Sem.run_pure]
      rw[h0]at hf
      have IB:Array.range 0=#[]:=rfl
      simp only[IB,Array.map_empty,List.map_toArray,List.map_nil]at hf⊢
      rw[qJ,hf]
      simp[newRow]
    · simp only[execOp,hop,Instr.buildSlice,Sem.run_bind,run_underlying ht,Result.andThen_ok,run_sizeOf hi,hl',if_false,h0,eZ hi vx,Sem.run_pure]
      simp[hf,newRow]
  · exact h.elim
abbrev FQ:=List (Nat×Mk)
def marks:FQ→Nat→Array Bool→Array Bool
  | [],_,l=>l
  |x::r,i,l=>marks r i (cond (Nat.beq x.1 i) l (l.setIfInBounds x.1 true))
def e8(ops:Array Oper)(o:Oper)(i:Nat)(listed:Array Bool):FQ→Bool
  | []=>true
  |x::r=>(Nat.beq x.1 i||listed.getD x.1 true||(match ops[x.1]? with|some of=>of.apart ops o|none=>false)) &&e8 ops o i listed r
def fD:FQ→Nat→Option Mk
  | [],_=>none
  |x::r,i=>cond (Nat.beq x.1 i) (some x.2) (fD r i)
def Ov(listed:Array Bool):FQ→Bool
  | []=>true
  |x::r=>listed.getD x.1 false&&Ov listed r
inductive Hn
  |e
  |h(m:Nat)(L I:List Nat)(a b:Hn)
def Hn.m:Hn→Nat| .e=>0| .h m _ _ _ _=>m
def Hn.L:Hn→List Nat| .e=>[]| .h _ L _ _ _=>L
def Hn.I:Hn→List Nat| .e=>[]| .h _ _ I _ _=>I
def Hn.a:Hn→Hn| .e=>.e| .h _ _ _ a _=>a
def Hn.b:Hn→Hn| .e=>.e| .h _ _ _ _ b=>b
def Br(v:Value)(t f:Prop):Prop:=∃b,v=.bool b∧(b=true→t)∧(b=false→f)
def Ur(p:Oper)(fr:Fr):Value:=
  match p.op with
  | .move x=>ev fr x
  | .assign x=>ev fr x
  |_=>oJ p fr
def IA(p:Oper):Bool:=match p.op with| .pick .. =>true| .move _=>true| .assign _=>true|_=>false
theorem Mu{p:Oper}{fr:Fr}{t:Bool}(hp:IA p=true)(h:Ur p fr=.bool t)(w:World):(execOp (ev fr) p).run P w=.ok (.value (.bool t)) w:=by
  unfold IA at hp
  unfold Ur at h
  split at h
  · rename_i x hop;simp only[execOp,hop,h];rfl
  · rename_i x hop;simp only[execOp,hop,h];rfl
  · rename_i h1 h2
    split at hp
    · rename_i hop;exact oI (by unfold qH;rw[hop]) h w
    · rename_i x hop;exact absurd hop (h1 x)
    · rename_i x hop;exact absurd hop (h2 x)
    · cases hp
theorem My{p:Oper}(hp:IA p=true):tH p.op=true:=by
  unfold IA at hp
  split at hp<;>first|(rename_i hop;rw[hop];rfl)|cases hp
def xf(ops:Array Oper)(fr:Fr)(o:Oper):Option Bool:=
  match o.guard with
  |none=>some true
  |some (j,want)=>match eM ops j with
    |none=>none
    |some s=>match fr s with
      | .bool b=>some (b==want)
      | .tuple _=>some false
      |_=>none
def oS(P:Program)(g:Gh)(n:Nat)(ops:Array Oper)(R:Hp)(K:Fr→Hp→Prop):Hn→FQ→Array Bool→Fr→Hp→Prop
  | .e,cl,listed,fr,H=>cond ((Region.ready .any ops listed).isEmpty&&Ov listed cl) (K fr H) False
  | .h m L T pa pb,cl,listed,fr,H=>
    match L with
    | [i]=>
      match ops[i]? with
      |none=>False
      |some o=>
        cond (Nat.beq m 1)
          (cond (eA n o.dst&&o.guard.isNone&& !tH o.op&& !listed.getD i true&&e8 ops o i listed cl&& (match fD cl i with|none=>true|some _=>false))
            (Claim P o (ev fr) fun x=>oS P g n ops R K pa ((i,x)::cl) listed fr H) False)
          (cond (eA n o.dst&&e8 ops o i listed cl&& (Region.ready .any ops listed).contains i)
            (match xf ops fr o with
            |none=>False
            |some false=>cond (Region.free .any ops listed i&& (match fD cl i with|none=>true|some _=>false)) (oS P g n ops R K pa cl (listed.setIfInBounds i true) (cz fr o.dst undef) H) False
            |some true=>
              cond (Nat.beq m 3) (cond (IA o&&Region.free .any ops listed i) (match Ur o fr with
                | .bool b=>oS P g n ops R K pa cl (listed.setIfInBounds i true) (cz fr o.dst (.bool b)) H
                |_=>False) False)
              (cond (tH o.op)
                (cond (Region.free .any ops listed i)
                  (AY P g o (ev fr) R fun v=>cond (Nat.beq m 0) (oS P g n ops R K pa cl (listed.setIfInBounds i true) (cz fr o.dst v) H)
                    (Br v (oS P g n ops R K pa cl (listed.setIfInBounds i true) (cz fr o.dst (.bool true)) H) (oS P g n ops R K pb cl (listed.setIfInBounds i true) (cz fr o.dst (.bool false)) H))) False)
                (cond (Region.ready .any ops (marks cl i listed)==[i])
                  (match fD cl i with
                    |some x=>bq H x.1 fun b H'=>oS P g n ops R K pa cl (listed.setIfInBounds i true) (cz fr o.dst (x.2 b)) H'
                    |none=>∀F,O1 P (g.add F) o (ev fr) H (fun v H'=>Hg (Mf P ops T i) (aO H' R) (oS P g n ops R K pa cl (listed.setIfInBounds i true) (cz fr o.dst v) H')) (fun _ _=>False)) False))) False)
    |_=>False
theorem NT{cl:FQ}{i:Nat}{x:Mk}(h:fD cl i=some x):(i,x)∈cl:=by
  induction cl with
  |nil=>simp[fD]at h
  |cons y r ih=>
    simp only[fD]at h
    cases hb:Nat.beq y.1 i<;>simp only[hb,cond_true,cond_false]at h
    · exact List.mem_cons_of_mem _ (ih h)
    · have:=Nat.eq_of_beq_eq_true hb
      simp only[Option.some.injEq]at h
      subst this;subst h;exact List.mem_cons_self
theorem IV{cl:FQ}{i:Nat}(h:i∈cl.map Prod.fst):∃x,fD cl i=some x:=by
  induction cl with
  |nil=>simp at h
  |cons y r ih=>
    simp only[fD]
    cases hb:Nat.beq y.1 i
    · simp only[cond_false]
      rw[List.map_cons,List.mem_cons]at h
      rcases h with h|h
      · subst h;simp at hb
      · exact ih h
    · exact⟨_,rfl⟩
theorem jm{cl:FQ}{i:Nat}{x:Mk}(h:fD cl i=some x):i∈cl.map Prod.fst:=List.mem_map.2 ⟨_,NT h,rfl⟩
theorem wg{l:FQ}{i:Nat}{b:Array Bool}{k:Nat}:(marks l i b)[k]? =if k∈l.map Prod.fst∧k≠i∧k<b.size then some true else b[k]? :=by
  induction l generalizing b with
  |nil=>simp[marks]
  |cons y r ih=>
    simp only[marks]
    cases hy:Nat.beq y.1 i
    · have hne:y.1≠i:=fun e=>by rw[e]at hy;simp at hy
      simp only[cond_false,ih,Array.size_setIfInBounds]
      by_cases hk:k∈r.map Prod.fst∧k≠i∧k<b.size
      · rw[if_pos hk,if_pos ⟨by rw[List.map_cons];exact List.mem_cons_of_mem _ hk.1,hk.2⟩]
      · rw[if_neg hk]
        by_cases e:y.1=k
        · subst e
          by_cases hlt:y.1<b.size
          · rw[if_pos ⟨by simp,hne,hlt⟩,Array.getElem?_setIfInBounds_self_of_lt hlt]
          · rw[if_neg (fun h=>hlt h.2.2),Array.getElem?_eq_none (by simp;omega),Array.getElem?_eq_none (by omega)]
        · rw[Array.getElem?_setIfInBounds_ne e,if_neg]
          rintro⟨h1,h2⟩
          rw[List.map_cons,List.mem_cons]at h1
          rcases h1 with h1|h1
          · exact e h1.symm
          · exact hk ⟨h1,h2⟩
    · have he:=Nat.eq_of_beq_eq_true hy
      simp only[cond_true,ih]
      by_cases hk:k∈r.map Prod.fst∧k≠i∧k<b.size
      · rw[if_pos hk,if_pos ⟨by rw[List.map_cons];exact List.mem_cons_of_mem _ hk.1,hk.2⟩]
      · rw[if_neg hk,if_neg]
        rintro⟨h1,h2,h3⟩
        rw[List.map_cons,List.mem_cons]at h1
        rcases h1 with h1|h1
        · exact h2 (h1.trans he)
        · exact hk ⟨h1,h2,h3⟩
theorem fJ{ops:Array Oper}{o:Oper}{i:Nat}{listed:Array Bool}{l:FQ}(h:e8 ops o i listed l=true){f:Nat}(hf:f∈l.map Prod.fst)(hne:f≠i)(hun:listed.getD f true=false):
    ∃of,ops[f]? =some of∧of.apart ops o=true:=by
  induction l with
  |nil=>simp at hf
  |cons x r ih=>
    simp only[e8,Bool.and_eq_true,Bool.or_eq_true]at h
    rw[List.map_cons]at hf
    rcases List.mem_cons.1 hf with rfl|hf
    · rcases h.1 with(h1|h1)|h1
      · exact absurd (Nat.eq_of_beq_eq_true h1) hne
      · rw[hun]at h1;simp at h1
      · split at h1
        · rename_i of ho;exact⟨of,ho,h1⟩
        · simp at h1
    · exact ih h.2 hf
theorem Di{ops:Array Oper}{x y:Oper}(h:x.apart ops y=true):y.apart ops x=true:=by
  unfold Oper.apart at*
  cases hx:x.dst<;>cases hy:y.dst<;>simp_all
  exact fun e=>h.1.2 e.symm
theorem qQ{ops:Array Oper}{l l':Array Bool}{i:Nat}(h:Region.free .any ops l i=true)(hm:∀k,l.getD k true=true→l'.getD k true=true):Region.free .any ops l' i=true:=by
  unfold Region.free at*
  split at h
  · simp at h
  · rename_i oi jA
    rw[List.all_eq_true]at h⊢
    intro j hj
    have:=h j hj
    simp only[Bool.or_eq_true]at this⊢
    rcases this with(h1|h1)|h1
    · exact .inl (.inl h1)
    · exact .inl (.inr (hm j h1))
    · exact .inr h1
abbrev Early:=List (Nat×Nat×Mk)
def Tc(E:Early):Hp:=E.map fun x=>(x.2.1,x.2.2.1)
structure VQ(P:Program)(n:Nat)(ops:Array Oper)(listed:Array Bool)(cl:FQ)(fr:Fr)(j:Nat)(x:Mk)(o:Oper):Prop where
  op:ops[j]? =some o
  zu:tH o.op=false
  dst:eA n o.dst=true
  gd:o.guard.isNone=true
  makes:wT P o (ev fr) x
  far:∀k y,fD cl k=some y→k≠j→listed.getD k true=false→∃ok,ops[k]? =some ok∧ok.apart ops o=true
structure kN(P:Program)(n:Nat)(ops:Array Oper)(cl:FQ)(listed la:Array Bool)(E:Early)(fr fa:Fr):Prop where
  mem:∀x∈E,fD cl x.1=some x.2.2∧listed.getD x.1 true=false
  nd:(E.map Prod.fst).Nodup
  la:∀k,la[k]? =if k∈E.map Prod.fst then some true else listed[k]?
  out:∀s,(∀x∈E,eM ops x.1≠some s)→fa s=fr s
  at_:∀x∈E,∀d,eM ops x.1=some d→fa d=x.2.2.2 x.2.1
  cl:∀j x,fD cl j=some x→listed.getD j true=false→∃o,VQ P n ops listed cl fr j x o
section
variable {n:Nat} {ops:Array Oper} {cl:FQ} {listed la:Array Bool} {E:Early} {fr fa:Fr}
theorem kN.more(h:kN P n ops cl listed la E fr fa){k:Nat}{b:Bool}(hk:listed.getD k b=true):la.getD k b=true:=by
  have:=h.la k
  rw[Array.getD_eq_getD_getElem?]at hk⊢
  rw[this]
  split
  · rfl
  · exact hk
theorem kN.ready(h:kN P n ops cl listed la E fr fa){i:Nat}(hi:i∉E.map Prod.fst)(hr:i∈Region.ready .any ops listed):i∈Region.ready .any ops la:=by
  rw[mem_ready]at hr⊢
  obtain⟨h1,o,ho,aK⟩:=hr
  refine⟨?_,o,ho,fun e he hb=>h.more (aK e he hb)⟩
  have:=h.la i
  rw[Array.getD_eq_getD_getElem?]at h1⊢
  rw[this,if_neg hi];exact h1
theorem RZ{i k:Nat}(h:(listed.setIfInBounds i true).getD k true=false):i≠k∧listed.getD k true=false:=by
  by_cases e:i=k
  · subst e
    rw[Array.getD_eq_getD_getElem?]at h
    rcases Nat.lt_or_ge i listed.size with hl|hl
    · rw[Array.getElem?_setIfInBounds_self_of_lt hl]at h;cases h
    · rw[Array.getElem?_eq_none (by simpa using hl)]at h;cases h
  · exact⟨e,by rwa [getD_set_ne true e]at h⟩
theorem wT.congr{o o':Oper}{x:Mk}{v:Value}(h:wT P o (ev fr) x)(hs:∀cs b,o.op≠.select cs b)(hap:o.apart ops o'=true):wT P o (ev (cz fr o'.dst v)) x:=by
  have e:execOp (ev (cz fr o'.dst v)) o=execOp (ev fr) o:=by
    refine execOp_congr o hs fun y hy=>?_
    cases y with
    |tmp t=>
      obtain⟨_,_,h3⟩:=Oper.apart_spec hap
      cases hd:o'.dst with
      |none=>rfl
      |some d=>
        have:=h3 d hd
        have hne:Nat.beq t d=false:=by
          cases hb:Nat.beq t d
          · rfl
          · have e:=Nat.eq_of_beq_eq_true hb;subst e
            refine absurd ?_ this
            exact List.mem_append_left _ (List.mem_filterMap.2 ⟨Operand.tmp t,by simpa using hy,rfl⟩)
        simp only[ev,cz,hne,cond_false]
    |const v=>rfl
    |global g=>rfl
    |func f=>rfl
  intro w;rw[e];exact h w
theorem Od(hs:Region.noSelect ops=true)(jW:∀j x,fD cl j=some x→listed.getD j true=false→∃o,VQ P n ops listed cl fr j x o){i:Nat}{o:Oper}(hap:e8 ops o i listed cl=true)(v:Value):
    ∀j x,fD cl j=some x→(listed.setIfInBounds i true).getD j true=false→∃oj,VQ P n ops (listed.setIfInBounds i true) cl (cz fr o.dst v) j x oj:=by
  intro j x hx hun
  obtain⟨hne,QB⟩:=RZ hun
  obtain⟨oj,h⟩:=jW j x hx QB
  obtain⟨oj',bX,adn⟩:=fJ hap (jm hx) (Ne.symm hne) QB
  rw[h.op]at bX;cases bX
  exact⟨oj,h.op,h.zu,h.dst,h.gd,h.makes.congr (fun cs b=>Region.noSelect_spec hs j oj cs b h.op) adn,fun k y hk V4 XW=>h.far k y hk V4 (RZ XW).2⟩
theorem kN.step(hs:Region.noSelect ops=true)(h:kN P n ops cl listed la E fr fa){i:Nat}{o:Oper}(jA:ops[i]? =some o)(hi:i∉E.map Prod.fst)
   (tQ:e8 ops o i listed cl=true)(v:Value):kN P n ops cl (listed.setIfInBounds i true) (la.setIfInBounds i true) E (cz fr o.dst v) (cz fa o.dst v):=by
  have hap:∀x∈E,∃of,ops[x.1]? =some of∧of.apart ops o=true:=fun x hx=>
      fJ tQ (jm (h.mem x hx).1) (fun e=>hi (e▸List.mem_map_of_mem hx)) (h.mem x hx).2
  have hsz:la[i]? =listed[i]? :=by rw[h.la i,if_neg hi]
  refine⟨fun x hx=>⟨(h.mem x hx).1,?_⟩,h.nd,fun k=>?_,fun s hs=>?_,fun x hx d hd=>?_,Od hs h.cl tQ v⟩
  · have hne:i≠x.1:=fun e=>hi (e▸List.mem_map_of_mem hx)
    rw[getD_set_ne true hne];exact(h.mem x hx).2
  · by_cases e:i=k
    · subst e
      rw[if_neg hi,Array.getElem?_setIfInBounds,Array.getElem?_setIfInBounds]
      simp only[if_true]
      have:i<la.size↔i<listed.size:=by
        constructor
        · intro hlt;rw[Array.getElem?_eq_getElem hlt]at hsz;exact(Array.getElem?_eq_some_iff.1 hsz.symm).1
        · intro hlt;rw[Array.getElem?_eq_getElem hlt]at hsz;exact(Array.getElem?_eq_some_iff.1 hsz).1
      by_cases hlt:i<la.size
      · rw[if_pos hlt,if_pos (this.1 hlt)]
      · rw[if_neg hlt,if_neg (fun x=>hlt (this.2 x))]
    · rw[Array.getElem?_setIfInBounds_ne e,Array.getElem?_setIfInBounds_ne e];exact h.la k
  · cases hd:o.dst with
    |none=>exact h.out s hs
    |some d=>
      simp only[cz]
      cases Nat.beq s d
      · exact h.out s hs
      · rfl
  · obtain⟨of,QI,hap⟩:=hap x hx
    obtain⟨h1,h2,h3⟩:=Oper.apart_spec hap
    have UH:of.dst=some d:=by simpa[eM,QI]using hd
    have:=h2 d UH
    cases hdo:o.dst with
    |none=>exact h.at_ x hx d hd
    |some d'=>
      have hne:Nat.beq d d'=false:=by
        cases hb:Nat.beq d d'
        · rfl
        · have e:=Nat.eq_of_beq_eq_true hb;subst e;exact absurd hdo this
      simp only[cz,hne,cond_false];exact h.at_ x hx d hd
theorem kN.exec(h:kN P n ops cl listed la E fr fa){o:Oper}
   (hap:∀x∈E,∃of,ops[x.1]? =some of∧of.apart ops o=true)(hs:∀cs b,o.op≠.select cs b):execOp (ev fa) o=execOp (ev fr) o:=by
  refine execOp_congr o hs fun x hx=>?_
  cases x with
  |tmp t=>
    refine h.out t fun y hy e=>?_
    obtain⟨of,QI,hap⟩:=hap y hy
    obtain⟨h1,_,_⟩:=Oper.apart_spec hap
    refine h1 t (by simpa[eM,QI]using e) ?_
    exact List.mem_append_left _ (List.mem_filterMap.2 ⟨.tmp t,by simpa using hx,rfl⟩)
  |const v=>rfl
  |global g=>rfl
  |func f=>rfl
theorem kN.early(h:kN P n ops cl listed la E fr fa){j b:Nat}{x:Mk}(hj:fD cl j=some x)(M4:j∉E.map Prod.fst)(hun:listed.getD j true=false)
   {o:Oper}(ho:ops[j]? =some o):kN P n ops cl listed (la.setIfInBounds j true) ((j,b,x)::E) fr (cz fa o.dst (x.2 b)):=by
  obtain⟨o',jW⟩:=h.cl j x hj hun
  have bX:=jW.op
  rw[ho]at bX;cases bX
  have U2:∀y∈E,∃of,ops[y.1]? =some of∧of.apart ops o=true:=fun y hy=>
    jW.far y.1 _ (h.mem y hy).1 (fun e=>M4 (e▸List.mem_map_of_mem hy)) (h.mem y hy).2
  have acV:j<la.size:=by
    have hl:=h.la j
    rw[if_neg M4]at hl
    have h2:j<listed.size:=by
      rcases Nat.lt_or_ge j listed.size with h2|h2
      · exact h2
      · rw[Array.getD_eq_getD_getElem?,Array.getElem?_eq_none h2]at hun;simp at hun
    rw[Array.getElem?_eq_getElem h2]at hl
    exact(Array.getElem?_eq_some_iff.1 hl).1
  refine⟨fun y hy=>?_,?_,fun k=>?_,fun s hs=>?_,fun y hy d hd=>?_,h.cl⟩
  · rcases List.mem_cons.1 hy with rfl|hy
    · exact⟨hj,hun⟩
    · exact h.mem y hy
  · rw[List.map_cons,List.nodup_cons];exact⟨M4,h.nd⟩
  · by_cases e:j=k
    · subst e;rw[if_pos (by simp),Array.getElem?_setIfInBounds_self_of_lt acV]
    · rw[Array.getElem?_setIfInBounds_ne e,h.la k]
      by_cases hk:k∈E.map Prod.fst
      · rw[if_pos hk,if_pos (by rw[List.map_cons];exact List.mem_cons_of_mem _ hk)]
      · rw[if_neg hk,if_neg]
        rw[List.map_cons,List.mem_cons]
        rintro(h1|hk')
        · exact e h1.symm
        · exact hk hk'
  · have hne:=hs (j,b,x) (by simp)
    simp only[eM,ho]at hne
    rw[show cz fa o.dst (x.2 b) s=fa s from ?_]
    · exact h.out s fun y hy=>hs y (by simp[hy])
    · cases hd:o.dst with
      |none=>rfl
      |some d=>
        rw[hd]at hne
        have:Nat.beq s d=false:=by
          cases hb:Nat.beq s d
          · rfl
          · exact absurd (congrArg some (Nat.eq_of_beq_eq_true hb).symm) hne
        simp only[cz,this,cond_false]
  · rcases List.mem_cons.1 hy with rfl|hy
    · simp only[eM,ho]at hd
      rw[hd];simp[cz]
    · obtain⟨of,QI,hap⟩:=U2 y hy
      obtain⟨_,h2,_⟩:=Oper.apart_spec hap
      have UH:of.dst=some d:=by simpa[eM,QI]using hd
      have:=h2 d UH
      cases hdo:o.dst with
      |none=>exact h.at_ y hy d hd
      |some d'=>
        have hne:Nat.beq d d'=false:=by
          cases hb:Nat.beq d d'
          · rfl
          · have e:=Nat.eq_of_beq_eq_true hb;subst e;exact absurd hdo this
        simp only[cz,hne,cond_false];exact h.at_ y hy d hd
theorem kN.xu(hs:Region.noSelect ops=true){E1 E2:Early}{j b:Nat}{x:Mk}(h:kN P n ops cl listed la (E1++(j,b,x)::E2) fr fa){o:Oper}(ho:ops[j]? =some o)(tQ:e8 ops o j listed cl=true):
    kN P n ops cl (listed.setIfInBounds j true) la (E1++E2) (cz fr o.dst (x.2 b)) fa:=by
  have g8:=h.nd
  rw[List.map_append,List.map_cons]at g8
  have QO:j∉(E1++E2).map Prod.fst:=by
    have:=(List.perm_middle.nodup_iff.1 g8)
    rw[List.nodup_cons]at this
    rw[List.map_append];exact this.1
  have hsub:∀y,y∈E1++E2→y∈E1++(j,b,x)::E2:=fun y hy=>by
    rcases List.mem_append.1 hy with hy|hy<;>simp[hy]
  have SE:j<listed.size:=by
    have h2:=(h.mem (j,b,x) (by simp)).2
    rcases Nat.lt_or_ge j listed.size with h3|h3
    · exact h3
    · simp only at h2;rw[Array.getD_eq_getD_getElem?,Array.getElem?_eq_none h3]at h2;simp at h2
  refine⟨fun y hy=>⟨(h.mem y (hsub y hy)).1,?_⟩,?_,fun k=>?_,fun s hs=>?_,fun y hy d hd=>h.at_ y (hsub y hy) d hd,Od hs h.cl tQ _⟩
  · have hne:j≠y.1:=fun e=>QO (e▸List.mem_map_of_mem hy)
    rw[getD_set_ne true hne];exact(h.mem y (hsub y hy)).2
  · have:=(List.perm_middle.nodup_iff.1 g8)
    rw[List.nodup_cons]at this
    rw[List.map_append];exact this.2
  · have hk:=h.la k
    by_cases e:j=k
    · subst e
      rw[if_pos (by simp)]at hk
      rw[hk,if_neg QO,Array.getElem?_setIfInBounds_self_of_lt SE]
    · rw[Array.getElem?_setIfInBounds_ne e,hk]
      have:k∈(E1++(j,b,x)::E2).map Prod.fst↔k∈(E1++E2).map Prod.fst:=by
        simp only[List.map_append,List.map_cons,List.mem_append,List.mem_cons]
        constructor
        · rintro(h|rfl|h)
          · exact .inl h
          · exact absurd rfl e
          · exact .inr h
        · rintro(h|h)
          · exact .inl h
          · exact .inr (.inr h)
      simp only[this]
  · by_cases e:eM ops j=some s
    · rw[h.at_ (j,b,x) (by simp) s e]
      simp only[eM,ho]at e
      rw[e];simp[cz]
    · rw[h.out s fun y hy=>?_]
      · simp only[eM,ho]at e
        cases hd:o.dst with
        |none=>rfl
        |some d=>
          rw[hd]at e
          have:Nat.beq s d=false:=by
            cases hb:Nat.beq s d
            · rfl
            · exact absurd (congrArg some (Nat.eq_of_beq_eq_true hb).symm) e
          simp only[cz,this,cond_false]
      · rcases List.mem_append.1 hy with hy|hy
        · exact hs y (by simp[hy])
        · rcases List.mem_cons.1 hy with rfl|hy
          · exact e
          · exact hs y (by simp[hy])
theorem kN.Y0(h:kN P n ops cl listed la E fr fa){i:Nat}{o:Oper}{x:Mk}(ho:ops[i]? =some o)(hd:eA n o.dst=true)(hg:o.guard.isNone=true)(hp:tH o.op=false)(hun:listed.getD i true=false)
   (hap:e8 ops o i listed cl=true)(hno:fD cl i=none)(hm:wT P o (ev fr) x):kN P n ops ((i,x)::cl) listed la E fr fa:=by
  have hne:∀j y,fD cl j=some y→j≠i:=fun j y hj e=>by subst e;rw[hno]at hj;cases hj
  have hex:∀j y,fD cl j=some y→fD ((i,x)::cl) j=some y:=fun j y hj=>by
    have:Nat.beq i j=false:=by
      cases hb:Nat.beq i j
      · rfl
      · exact absurd (Nat.eq_of_beq_eq_true hb).symm (hne j y hj)
    simp only[fD,this,cond_false];exact hj
  have UU:∀j y,fD ((i,x)::cl) j=some y→(j=i∧y=x)∨(j≠i∧fD cl j=some y):=fun j y hj=>by
    simp only[fD]at hj
    cases hb:Nat.beq i j<;>simp only[hb,cond_true,cond_false]at hj
    · exact .inr ⟨fun e=>by subst e;simp at hb,hj⟩
    · exact .inl ⟨(Nat.eq_of_beq_eq_true hb).symm,by simpa using hj.symm⟩
  refine⟨fun y hy=>⟨hex _ _ (h.mem y hy).1,(h.mem y hy).2⟩,h.nd,h.la,h.out,h.at_,fun j y hj hu=>?_⟩
  rcases UU j y hj with⟨rfl,rfl⟩|⟨UQ,SH⟩
  · refine⟨o,ho,hp,hd,hg,hm,fun k z hk V4 XW=>?_⟩
    rcases UU k z hk with⟨rfl,rfl⟩|⟨_,hk⟩
    · exact absurd rfl V4
    · exact fJ hap (jm hk) V4 XW
  · obtain⟨oj,hc⟩:=h.cl j y SH hu
    refine⟨oj,hc.op,hc.zu,hc.dst,hc.gd,hc.makes,fun k z hk V4 XW=>?_⟩
    rcases UU k z hk with⟨rfl,rfl⟩|⟨_,hk⟩
    · obtain⟨oj',h1,h2⟩:=fJ hap (jm SH) UQ hu
      rw[hc.op]at h1;cases h1
      exact⟨o,ho,Di h2⟩
    · exact hc.far k z hk V4 XW
end
theorem IW{E1 E2:Early}{y:Nat×Nat×Mk}:(Tc (E1++y::E2)).Perm ((y.2.1,y.2.2.1)::Tc (E1++E2)):=by
  unfold Tc
  rw[List.map_append,List.map_cons,List.map_append]
  exact List.perm_middle
def cnt:List Bool→Nat
  | []=>0
  |b::r=>cond b 0 1+cnt r
theorem GP:∀(l:List Bool) (i:Nat),l[i]? =some false→cnt (l.set i true)+1=cnt l
  | [],i,h=>by simp at h
  |b::r,0,h=>by simp only[List.getElem?_cons_zero,Option.some.injEq]at h;subst h;simp only[List.set_cons_zero,cnt,cond_true,cond_false];omega
  |b::r,i+1,h=>by
    simp only[List.getElem?_cons_succ]at h
    have:=GP r i h
    simp only[List.set_cons_succ,cnt];omega
theorem vz(n:Nat):cnt (List.replicate n false)=n:=by
  induction n with
  |zero=>rfl
  |succ n ih=>simp only[List.replicate_succ,cnt,ih,cond_false];omega
theorem fO{a:Array Bool}{i:Nat}(h:a.getD i true=false):a[i]? =some false:=by
  rw[Array.getD_eq_getD_getElem?]at h
  cases hg:a[i]? with
  |none=>rw[hg]at h;simp at h
  |some b=>rw[hg]at h;simpa using h
theorem mS{a:Array Bool}{i fuel:Nat}(h:a.getD i true=false)(hf:cnt a.toList≤fuel):∃f,fuel=f+1∧cnt (a.setIfInBounds i true).toList≤f:=by
  have h1:=fO h
  have h2:a.toList[i]? =some false:=by rw[Array.getElem?_toList];exact h1
  have:=GP _ _ h2
  refine⟨fuel-1,by omega,?_⟩
  have:(a.setIfInBounds i true).toList=a.toList.set i true:=by simp
  rw[this];omega
theorem Jn{listed:Array Bool}{l:FQ}(h:Ov listed l=true){f:Nat}(hf:f∈l.map Prod.fst):listed.getD f false=true:=by
  induction l with
  |nil=>simp at hf
  |cons x r ih=>
    simp only[Ov,Bool.and_eq_true]at h
    rw[List.map_cons]at hf
    rcases List.mem_cons.1 hf with rfl|hf
    · exact h.1
    · exact ih h.2 hf
theorem Ri{a:Array Bool}{i:Nat}(h:a.getD i false=true):a.getD i true=true:=by
  rw[Array.getD_eq_getD_getElem?]at*
  cases hg:a[i]? with
  |none=>rfl
  |some b=>rw[hg]at h;simpa using h
theorem e7{n:Nat}{ops:Array Oper}{R:Hp}{K:Fr→Hp→Prop}{Q:Exit→Act→World→Prop}(hs:Region.noSelect ops=true)(wC:Fr)
   (hk:∀a w fr H,cD ds n a fr→Own g H w→eE ops.toList wC fr→K fr H→Q .normal a w):
    ∀(fuel:Nat) (l:Hn) (cl:FQ) (listed:Array Bool) (fr:Fr) (H:Hp),oS P g n ops R K l cl listed fr H→∀(E:Early) (la:Array Bool) (fa:Fr),cnt la.toList≤fuel→kN P n ops cl listed la E fr fa→fb .any ops la→
      ∀(a:Act) (w:World),cD ds n a fa→Own (g.add (Tc E)) H w→((∃k ok,ops[k]? =some ok∧vq P ok.op=true∧la.getD k true=false)→Own g R w)→eE ops.toList wC fr→
      dm P .any ops (qf Q) (oh P g R ops) fuel la a w
  |fuel,.e,cl,listed,fr,H,h=>by
    intro E la fa hfuel hE jl a w ha hw hR ho
    unfold oS at h
    cases hr:((Region.ready .any ops listed).isEmpty&&Ov listed cl)<;>simp only[hr,cond_true,cond_false]at h
    simp only[Bool.and_eq_true]at hr
    have hr':Region.ready .any ops listed=[]:=by simpa using hr.1
    have hE0:E=[]:=by
      cases E with
      |nil=>rfl
      |cons x y=>
        have h1:=hE.mem x (by simp)
        have h2:=Ri (Jn hr.2 (jm h1.1))
        rw[h1.2]at h2;cases h2
    subst hE0
    have hfa:fa=fr:=by funext s;exact hE.out s (by simp)
    subst hfa
    refine dm.done (Q:=qf Q) ?_ (hk a w fa H ha hw ho h) fuel
    rw[List.eq_nil_iff_forall_not_mem]at hr'⊢
    intro k hk'
    refine hr' k ?_
    rw[mem_ready]at hk'⊢
    obtain⟨h1,o,h2,h3⟩:=hk'
    have hla:=fun k=>hE.la k
    simp only[List.map_nil,List.not_mem_nil,if_false]at hla
    refine⟨?_,o,h2,fun e he hb=>?_⟩
    · rw[Array.getD_eq_getD_getElem?,←hla,←Array.getD_eq_getD_getElem?];exact h1
    · rw[Array.getD_eq_getD_getElem?,←hla,←Array.getD_eq_getD_getElem?];exact h3 e he hb
  |fuel,.h m L T pa pb,cl,listed,fr,H,h=>by
    intro E la fa hfuel hE jl a w ha hw hR ho
    have h0:=h
    unfold oS at h
    split at h<;>try exact h.elim
    rename_i i
    split at h<;>try exact h.elim
    rename_i o jA
    cases h1:Nat.beq m 1<;>simp only[h1,cond_true,cond_false]at h
    case true=>
      cases hc:(eA n o.dst&&o.guard.isNone&& !tH o.op&& !listed.getD i true&&e8 ops o i listed cl&& (match fD cl i with|none=>true|some _=>false))<;>simp only[hc,cond_true,cond_false]at h
      simp only[Bool.and_eq_true,Bool.not_eq_true']at hc
      obtain⟨⟨⟨⟨⟨hd,hg⟩,hp⟩,hun⟩,hap⟩,hno⟩:=hc
      have ID:fD cl i=none:=by
        split at hno
        · assumption
        · cases hno
      obtain⟨x,hm,hk'⟩:=h.makes
      exact e7 hs wC hk fuel pa _ listed fr H hk' E la fa hfuel (hE.Y0 jA hd hg hp hun hap ID hm) jl a w ha hw hR ho
    have hmem:o∈ops.toList:=Array.mem_toList_iff.2 (Array.mem_of_getElem? jA)
    have hout:∀v,eE ops.toList wC (cz fr o.dst v):=fun v s hs'=>by
      rw[fU,ho s hs']
      have:∀l:List Oper,o∈l→bP l s=false→bP [({(default:Oper)with dst:=o.dst})] s=false:=by
        intro l
        induction l with
        |nil=>intro h;simp at h
        |cons x y ih=>
          intro hm hi
          rw[dD,Bool.or_eq_false_iff]at hi
          rcases List.mem_cons.1 hm with rfl|hm
          · exact hi.1
          · exact ih hm hi.2
      exact this _ hmem hs'
    cases hc:(eA n o.dst&&e8 ops o i listed cl&& (Region.ready .any ops listed).contains i)<;>simp only[hc,cond_true,cond_false]at h
    simp only[Bool.and_eq_true]at hc
    obtain⟨⟨hd,tQ⟩,acB⟩:=hc
    have xU:i∈Region.ready .any ops listed:=by simpa using acB
    have hun:=(mem_ready.1 xU).1
    have hap:i∉E.map Prod.fst→∀x∈E,∃of,ops[x.1]? =some of∧of.apart ops o=true:=fun hi x hx=>
      fJ tQ (jm (hE.mem x hx).1) (fun e=>hi (e▸List.mem_map_of_mem hx)) (hE.mem x hx).2
    have hsel:∀cs b,o.op≠.select cs b:=fun cs b=>Region.noSelect_spec hs i o cs b jA
    have WQ:∀j,j∈Region.ready .any ops la→j∉E.map Prod.fst∧listed.getD j true=false:=fun j hj=>by
      have h1:=fO (mem_ready.1 hj).1
      have h2:=hE.la j
      by_cases M4:j∈E.map Prod.fst
      · rw[if_pos M4,h1]at h2;cases h2
      · rw[if_neg M4,h1]at h2
        exact⟨M4,by rw[Array.getD_eq_getD_getElem?,←h2];rfl⟩
    have early:∀f',fuel=f'+1→(∀j,la.getD j true=false→cnt (la.setIfInBounds j true).toList≤f')→∀j x,j∈Region.ready .any ops la→fD cl j=some x→
        wpOp P ops (qf Q) j (fun a' w'=>oh P g R ops j w w'∧dm P .any ops (qf Q) (oh P g R ops) f' (la.setIfInBounds j true) a' w') a w:=by
      intro f' O9 nT j x hj hjf
      obtain⟨M4,SE⟩:=WQ j hj
      obtain⟨oj,jW⟩:=hE.cl j x hjf SE
      have iK:=jW.op
      have xV:=jW.zu
      have hgj:=jW.gd
      have adb:execOp (ev fa) oj=execOp (ev fr) oj:=hE.exec (fun y hy=>jW.far y.1 _ (hE.mem y hy).1 (fun e=>M4 (e▸List.mem_map_of_mem hy)) (hE.mem y hy).2) (fun cs b=>Region.noSelect_spec hs j oj cs b iK)
      unfold wpOp
      simp only[iK,jJ hgj,if_true]
      refine .inl ?_
      unfold Oper.wp
      rw[ha.eval,adb,jW.makes w]
      simp only[Oper.upon]
      have ql:∀{A:Hp},Own g A w→Own g A (w.alloc x.1):=fun hA=>(hA.alloc x.1).tail
      refine⟨fun oj' lX=>⟨fun hp=>?_,fun _=>⟨ql (Own.gF.2 hw).kW,fun _ h1=>ql h1⟩⟩,?_⟩
      · rw[iK]at lX;cases lX;rw[xV]at hp;cases hp
      · have CE:=hE.early (b:=w.heap.size) hjf M4 SE iK
        refine e7 hs wC hk f' (.h m [i] T pa pb) cl listed fr H h0 ((j,w.heap.size,x)::E) _ _ (nT j (mem_ready.1 hj).1) CE (jl.step hj) _ _ (ha.put jW.dst _) ?_ ?_ ho
        · have h1:=hw.alloc x.1
          have h2:Own (g.add (Tc E)) (H++[(w.heap.size,x.1)]) (w.alloc x.1):=h1.perm (by exact(List.perm_append_comm (l₁:=[(w.heap.size,x.1)]) (l₂:=H)))
          have h3:=Own.gF.1 h2
          exact h3
        · rintro⟨k,ok,xW,u6,sA⟩
          refine ql (hR ⟨k,ok,xW,u6,gm (mem_ready.1 hj).1 sA⟩)
    have n7:∀b,xf ops fr o=some b→i∉E.map Prod.fst→Region.wanted o (yielded ops a.tmps)=b:=by
      intro b hb tN
      unfold xf at hb
      unfold Region.wanted
      split at hb
      · rename_i hg;simp only[hg];simpa using hb
      · rename_i j want hg
        simp only[hg]
        split at hb<;>try (cases hb;done)
        rename_i s jP
        rw[kS ha jP]
        have o7:fa s=fr s:=hE.out s fun y hy e=>by
          obtain⟨of,QI,hap⟩:=hap tN y hy
          obtain⟨h1,_,_⟩:=Oper.apart_spec hap
          refine h1 s (by simpa[eM,QI]using e) ?_
          refine List.mem_append_right _ ?_
          rw[hg]
          unfold eM at jP
          cases hj:ops[j]? with
          |none=>rw[hj]at jP;cases jP
          |some oj=>rw[hj]at jP;simp only at jP;simp[hj,jP]
        rw[o7]
        split at hb
        · rename_i c hc;rw[hc];simp only[Option.some.injEq]at hb;subst hb;cases c<;>cases want<;>rfl
        · rename_i c hc;rw[hc];simp only[Option.some.injEq]at hb;subst hb;cases want<;>rfl
        · cases hb
    split at h<;>try exact h.elim
    · -- not wanted
      rename_i hwd
      cases l9:(Region.free .any ops listed i&& (match fD cl i with|none=>true|some _=>false))<;>simp only[l9,cond_true,cond_false]at h
      simp only[Bool.and_eq_true]at l9
      have ID:fD cl i=none:=by
        have:=l9.2
        split at this
        · assumption
        · cases this
      have tN:i∉E.map Prod.fst:=fun hm=>by
        obtain⟨x,hx,e⟩:=List.mem_map.1 hm
        have:=(hE.mem x hx).1
        rw[e,ID]at this;cases this
      have lz:=hE.ready tN xU
      have qI:=(mem_ready.1 lz).1
      obtain⟨f',rfl,nT⟩:=mS qI hfuel
      have hfree:=qQ (l':=la) l9.1 (fun k hk=>hE.more hk)
      have IJ:(Region.ready .any ops la).contains i=true:=by simpa using lz
      refine dm.take jl (S0:=Own g []) jA hs hfree IJ (fun _ _ _ h=>h) (fun w hw oj iK=>⟨fun _=>rfl,fun _=>⟨hw,fun _ h=>h⟩⟩) (fun j oj w w' iK hj hno h0 hk=>?_) (.inr ⟨n7 false hwd tN,rfl⟩) (Own.gF.2 hw).kW ?_
      · cases xV:tH oj.op
        · exact((hk oj iK).2 xV).1
        · rw[(hk oj iK).1 xV];exact h0
      · refine e7 hs wC hk f' pa cl _ _ H h E _ _ nT (hE.step hs jA tN tQ _) (jl.step lz) _ w (ha.put hd _) hw ?_ (hout _)
        rintro⟨k,ok,xW,u6,sA⟩
        exact hR ⟨k,ok,xW,u6,gm qI sA⟩
    rename_i hwd
    have hgw:=n7 true hwd
    have SL:∀v f' BZ a' w',(cond (Nat.beq m 0) (oS P g n ops R K pa cl (listed.setIfInBounds i true) (cz fr o.dst v) H)
                    (Br v (oS P g n ops R K pa cl (listed.setIfInBounds i true) (cz fr o.dst (.bool true)) H) (oS P g n ops R K pb cl (listed.setIfInBounds i true) (cz fr o.dst (.bool false)) H)))→
        cnt BZ.toList≤f'→kN P n ops cl (listed.setIfInBounds i true) BZ E (cz fr o.dst v) (cz fa o.dst v)→fb .any ops BZ→cD ds n a' (cz fa o.dst v)→Own (g.add (Tc E)) H w'→
        ((∃k ok,ops[k]? =some ok∧vq P ok.op=true∧BZ.getD k true=false)→Own g R w')→f'<fuel→dm P .any ops (qf Q) (oh P g R ops) f' BZ a' w':=by
      intro v f' BZ a' w' hv h1 h2 Nj h3 h4 h5 hlt
      cases hm:Nat.beq m 0<;>simp only[hm,cond_true,cond_false]at hv
      · obtain⟨b,rfl,hb1,We⟩:=hv
        cases b
        · exact e7 hs wC hk f' pb cl _ _ H (We rfl) E BZ _ h1 h2 Nj a' w' h3 h4 h5 (hout _)
        · exact e7 hs wC hk f' pa cl _ _ H (hb1 rfl) E BZ _ h1 h2 Nj a' w' h3 h4 h5 (hout _)
      · exact e7 hs wC hk f' pa cl _ _ H hv E BZ _ h1 h2 Nj a' w' h3 h4 h5 (hout _)
    cases h3:Nat.beq m 3<;>simp only[h3,cond_true,cond_false]at h
    case true=>
      cases l9:(IA o&&Region.free .any ops listed i)<;>simp only[l9,cond_true,cond_false]at h
      simp only[Bool.and_eq_true]at l9
      split at h<;>try exact h.elim
      rename_i b UF
      have xX:tH o.op=true:=My l9.1
      have tN:i∉E.map Prod.fst:=fun hm=>by
        obtain⟨x,hx,e⟩:=List.mem_map.1 hm
        have h2:=hE.mem x hx
        obtain⟨o',jW⟩:=hE.cl _ _ h2.1 h2.2
        have h3:=jW.op
        rw[e,jA]at h3;cases h3
        have:=jW.zu
        rw[xX]at this;cases this
      have lz:=hE.ready tN xU
      have qI:=(mem_ready.1 lz).1
      obtain⟨f',rfl,nT⟩:=mS qI hfuel
      have hfree:=qQ (l':=la) l9.2 (fun k hk=>hE.more hk)
      have IJ:(Region.ready .any ops la).contains i=true:=by simpa using lz
      have mJ:∀w,oh P g R ops i w w:=fun w oj lX=>⟨fun _=>rfl,fun hn=>(by rw[jA]at lX;cases lX;rw[xX]at hn;cases hn)⟩
      have IG:=hE.exec (hap tN) hsel
      refine dm.take jl (S0:=Own g []) jA hs hfree IJ (fun _ _ _ h=>h) (fun w _=>mJ w) (fun j oj w w' iK hj hno h0 hk=>?_) (.inl ⟨hgw tN,fun w' dx=>by rw[ha.eval,IG];exact Mu l9.1 UF w'⟩) (Own.gF.2 hw).kW ?_
      · cases xV:tH oj.op
        · exact((hk oj iK).2 xV).1
        · rw[(hk oj iK).1 xV];exact h0
      · refine e7 hs wC hk f' pa cl _ _ H h E _ _ nT (hE.step hs jA tN tQ _) (jl.step lz) _ w (ha.put hd _) hw ?_ (hout _)
        rintro⟨k,ok,xW,u6,sA⟩
        exact hR ⟨k,ok,xW,u6,gm qI sA⟩
    cases xX:tH o.op<;>simp only[xX,cond_true,cond_false]at h
    case true=>
      cases l9:(Region.free .any ops listed i)<;>simp only[l9,cond_true,cond_false]at h
      have tN:i∉E.map Prod.fst:=fun hm=>by
        obtain⟨x,hx,e⟩:=List.mem_map.1 hm
        have h2:=hE.mem x hx
        obtain⟨o',jW⟩:=hE.cl _ _ h2.1 h2.2
        have h3:=jW.op
        rw[e,jA]at h3;cases h3
        have:=jW.zu
        rw[xX]at this;cases this
      have lz:=hE.ready tN xU
      have qI:=(mem_ready.1 lz).1
      obtain⟨f',rfl,nT⟩:=mS qI hfuel
      have hfree:=qQ (l':=la) l9 (fun k hk=>hE.more hk)
      have IJ:(Region.ready .any ops la).contains i=true:=by simpa using lz
      have mJ:∀w,oh P g R ops i w w:=fun w oj lX=>⟨fun _=>rfl,fun hn=>(by rw[jA]at lX;cases lX;rw[xX]at hn;cases hn)⟩
      have hst:=fun v=>hE.step hs jA tN tQ v
      have IG:=hE.exec (hap tN) hsel
      cases hn:Xh P o.op
      case true=>
        rw[zn hn (ev fr) R []]at h
        obtain⟨v,hk',hr⟩:=kj h
        refine dm.take jl (S0:=Own g []) jA hs hfree IJ (fun _ _ _ h=>h) (fun w _=>mJ w) (fun j oj w w' iK hj hno h0 hk=>?_) (.inl ⟨hgw tN,fun w' dx=>by rw[ha.eval,IG];exact hr w' dx⟩) (Own.gF.2 hw).kW ?_
        · cases xV:tH oj.op
          · exact((hk oj iK).2 xV).1
          · rw[(hk oj iK).1 xV];exact h0
        · refine SL v f' _ _ w hk' nT (hst v) (jl.step lz) (ha.put hd v) hw ?_ (by omega)
          rintro⟨k,ok,xW,u6,sA⟩
          exact hR ⟨k,ok,xW,u6,gm qI sA⟩
      case false=>
        obtain⟨v,hk',hr⟩:=kj h
        have hrd:vq P o.op=true:=by simp[vq,xX,hn]
        have U5:Own g R w:=hR ⟨i,o,jA,hrd,qI⟩
        refine dm.take jl (S0:=Own g R) jA hs hfree IJ (fun _ _ _ h=>h) (fun w _=>mJ w) (fun j oj w w' iK hj hno h0 hk=>?_) (.inl ⟨hgw tN,fun w' dx=>by rw[ha.eval,IG];exact hr w' dx⟩) U5 ?_
        · cases xV:tH oj.op
          · exact((hk oj iK).2 xV).2 (k8 jA hrd hj hno) h0
          · rw[(hk oj iK).1 xV];exact h0
        · exact SL v f' _ _ w hk' nT (hst v) (jl.step lz) (ha.put hd v) hw (fun _=>U5) (by omega)
    case false=>
      cases l9:(Region.ready .any ops (marks cl i listed)==[i])<;>simp only[l9,cond_true,cond_false]at h
      have hrd:=beq_iff_eq.1 l9
      by_cases tN:i∈E.map Prod.fst
      · obtain⟨⟨i',b,x⟩,hx,e⟩:=List.mem_map.1 tN
        simp only at e;subst e
        have hex:fD cl i'=some x:=(hE.mem _ hx).1
        simp only[hex]at h
        obtain⟨E1,E2,rfl⟩:=List.append_of_mem hx
        have jz:Own (g.add (Tc (E1++E2))) ((b,x.1)::H) w:=by
          have h1:=(Own.gF.2 hw).perm ((List.Perm.append_left H (IW (E1:=E1) (E2:=E2) (y:=(i',b,x)))).trans List.perm_middle)
          exact(Own.gF (A:=(b,x.1)::H)).1 h1
        have hb:b∉H.map Prod.fst:=by
          have:=jz.nd
          rw[List.cons_append,List.map_cons,List.nodup_cons,List.map_append,List.mem_append]at this
          exact fun h=>this.1 (.inl h)
        exact e7 hs wC hk fuel pa cl _ _ _ (h b hb) (E1++E2) la fa hfuel (hE.xu hs jA tQ) jl a w ha jz hR (hout _)
      · have lz:=hE.ready tN xU
        have qI:=(mem_ready.1 lz).1
        obtain⟨f',rfl,nT⟩:=mS qI hfuel
        have Yc:∀j,la.getD j true=false→cnt (la.setIfInBounds j true).toList≤f':=fun j hj=>by
          obtain⟨f2,h1,h2⟩:=mS hj hfuel
          have:f2=f':=by omega
          subst this;exact h2
        have hst:=fun v=>hE.step hs jA tN tQ v
        have IG:=hE.exec (hap tN) hsel
        refine dm.all rfl (fun e=>by rw[e]at lz;simp at lz) fun j hj=>?_
        by_cases UQ:j=i
        · subst UQ
          have zu:∀oj,ops[j]? =some oj→tH oj.op=true→False:=fun oj iK hp=>by rw[jA]at iK;cases iK;rw[xX]at hp;cases hp
          unfold wpOp
          simp only[jA,hgw tN,if_true]
          refine .inl ?_
          unfold Oper.wp
          rw[ha.eval,IG]
          cases hex:fD cl j with
          |none=>
            simp only[hex]at h
            have h:=h (Tc E)
            refine(tu (nJ fr) h w hw).upon (fun v H' w' bX hb=>?_) (fun ch H' w' _ h0=>h0.elim)
            obtain⟨he,hk'⟩:=hb.of
            have Ys:rF P ops j=true→Own g R w':=fun hn=>(Own.gF.2 (he (Me hn) _ _ bX)).left
            refine⟨fun oj lX=>⟨fun hp=>(zu oj lX hp).elim,fun _=>⟨(Own.gF.2 bX).kW,fun hn _=>Ys hn⟩⟩,e7 hs wC hk f' pa cl _ _ H' hk' E _ _ nT (hst v) (jl.step lz) _ w' (ha.put hd v) bX ?_ (hout v)⟩
            rintro⟨k,ok,xW,u6,sA⟩
            refine Ys ?_
            have UP:j≠k:=fun e=>by
              subst e
              have h1:=fO qI
              have hlt:=(Array.getElem?_eq_some_iff.1 h1).1
              rw[Array.getD_eq_getD_getElem?,Array.getElem?_setIfInBounds_self_of_lt hlt]at sA
              cases sA
            rw[getD_set_ne true UP]at sA
            refine k8 xW u6 UP fun hw=>?_
            rw[jl.ready lz hw]at sA;cases sA
          |some x=>
            simp only[hex]at h
            obtain⟨oj,jW⟩:=hE.cl j x hex hun
            have iK:=jW.op
            rw[jA]at iK;cases iK
            rw[jW.makes w]
            simp only[Oper.upon]
            have ql:∀{A:Hp},Own g A w→Own g A (w.alloc x.1):=fun hA=>(hA.alloc x.1).tail
            refine⟨fun oj lX=>⟨fun hp=>(zu oj lX hp).elim,fun _=>⟨ql (Own.gF.2 hw).kW,fun _ h1=>ql h1⟩⟩,?_⟩
            refine e7 hs wC hk f' pa cl _ _ _ (h _ hw.fresh) E _ _ nT (hst _) (jl.step lz) _ _ (ha.put hd _) (hw.alloc x.1) ?_ (hout _)
            rintro⟨k,ok,xW,u6,sA⟩
            exact ql (hR ⟨k,ok,xW,u6,gm qI sA⟩)
        · obtain⟨M4,SE⟩:=WQ j hj
          cases XY:fD cl j with
          |some x=>exact early f' rfl Yc j x hj XY
          |none=>
          refine absurd ?_ UQ
          have hjf:j∉cl.map Prod.fst:=fun hm=>by
            obtain⟨x,hx⟩:=IV hm
            rw[XY]at hx;cases hx
          have hjm:j∈Region.ready .any ops (marks cl i listed):=by
            obtain⟨_,oj,iK,aK⟩:=mem_ready.1 hj
            rw[mem_ready]
            refine⟨?_,oj,iK,fun e he hb=>?_⟩
            · rw[Array.getD_eq_getD_getElem?,wg,if_neg (fun h=>hjf h.1),←Array.getD_eq_getD_getElem?];exact SE
            · have h1:=aK e he hb
              have h2:=hE.la e.on
              rw[Array.getD_eq_getD_getElem?]at h1⊢
              rw[wg]
              by_cases hm:e.on∈E.map Prod.fst
              · obtain⟨x,hx,e2⟩:=List.mem_map.1 hm
                have hlx:=fO (hE.mem x hx).2
                rw[e2]at hlx
                have hlt:=(Array.getElem?_eq_some_iff.1 hlx).1
                rw[if_pos ⟨e2▸jm (hE.mem x hx).1,fun e3=>tN (e3▸hm),hlt⟩];rfl
              · rw[if_neg hm]at h2
                split
                · rfl
                · rw[←h2];exact h1
          rw[hrd]at hjm
          simpa using hjm
  termination_by fuel l=>(fuel,SizeOf.sizeOf l)
def r6:Code→Nat→Bool
  | .region _ ops _,s=>bP ops.toList s
  | .seq a b,s=>r6 a s||r6 b s
  | .cond _ a b,s=>r6 a s||r6 b s
  | .block _ c,s=>r6 c s
  | .loop c,s=>r6 c s
  | .skip,_=>false
  | .ret,_=>false
  | .exit _,_=>false
  |_,_=>true
def Qd(c:Code):List Nat→Bool
  | []=>true
  |s::r=> !r6 c s&&Qd c r
def uc(s:Nat):List Nat→Bool
  | []=>false
  |x::r=>Nat.beq s x||uc s r
def Qe:List Nat→List Value→Fr→Fr
  |l::L,v::vs,base=>fun s=>cond (Nat.beq s l) v (Qe L vs base s)
  |_,_,base=>base
def mix(L:List Nat)(vs:List Value)(I:List Nat)(fr gs:Fr):Fr:=Qe L vs fun s=>cond (uc s I) (fr s) (gs s)
def A2(fr:Fr):List Nat→List Value
  | []=>[]
  |s::r=>fr s::A2 fr r
def uX:Nat→(List Value→Prop)→Prop
  |0,p=>p []
  |n+1,p=>∀v,uX n fun vs=>p (v::vs)
theorem uX.intro{p:List Value→Prop}(h:∀vs,p vs):∀n,uX n p
  |0=>h _
  |n+1=>fun v=>uX.intro (fun vs=>h (v::vs)) n
theorem uX.elim{p:List Value→Prop}:∀{n:Nat},uX n p→∀vs:List Value,vs.length=n→p vs
  |0,h,vs,e=>by cases vs with|nil=>exact h|cons x y=>simp at e
  |n+1,h,vs,e=>by
    cases vs with
    |nil=>simp at e
    |cons x y=>exact uX.elim (h x) y (by simpa using e)
theorem CN(fr:Fr)(L:List Nat):(A2 fr L).length=L.length:=by induction L<;>simp[A2, *]
theorem tB{L I:List Nat}{fr fr':Fr}(h:∀s,uc s I=true→fr' s=fr s):mix L (A2 fr' L) I fr fr'=fr':=by
  funext s
  unfold mix
  induction L with
  |nil=>
    simp only[A2,Qe]
    cases he:uc s I
    · rfl
    · exact(h s he).symm
  |cons l L ih=>
    simp only[A2,Qe]
    cases hb:Nat.beq s l
    · exact ih
    · have:=Nat.eq_of_beq_eq_true hb;subst this;rfl
theorem tx{c:Code}{I:List Nat}(h:Qd c I=true):∀s,uc s I=true→r6 c s=false:=by
  induction I with
  |nil=>intro s hs;simp[uc]at hs
  |cons x r ih=>
    intro s hs
    simp only[Qd,Bool.and_eq_true,Bool.not_eq_true']at h
    simp only[uc,Bool.or_eq_true]at hs
    rcases hs with hs|hs
    · rw[Nat.eq_of_beq_eq_true hs];exact h.1
    · exact ih h.2 s hs
def y4(next:Fr→Hp→Prop)(Q:Exit→Fr→Hp→Prop):Exit→Fr→Hp→Prop
  | .normal,fr,H=>next fr H
  |e,fr,H=>Q e fr H
def Og(id:Nat)(Q:Exit→Fr→Hp→Prop):Exit→Fr→Hp→Prop
  | .exit id',fr,H=>cond (Nat.beq id' id) (Q .normal fr H) (Q (.exit id') fr H)
  |e,fr,H=>Q e fr H
def JE(J:List Value→Hp→Prop)(vs:List Value)(H:Hp):Prop:=∃H',aO H H'∧J vs H'
def ay(I:List Value→Hp→Prop)(m:List Value→Hp→Nat)(vs':List Value)(H':Hp)(vs:List Value)(H:Hp):Prop:=∃lT,aO H' lT∧I vs' lT∧m vs' lT<m vs H
def Loop(L:List Nat)(vs:List Value)(H:Hp)(body:(List Value→Hp→Prop)→List Value→Hp→Prop):Prop:=
  ∃(I:List Value→Hp→Prop) (m:List Value→Hp→Nat),JE I vs H∧uX L.length fun vs=>∀H',I vs H'→body (fun vs' lT=>ay I m vs' lT vs H') vs H'
def Zy(k:Nat)(rest:List Value→Hp→Prop)(body:(List Value→Hp→Prop)→Prop):Prop:=
  ∀J:List Value→Hp→Prop,(uX k fun vs=>∀H,rest vs H→J vs H)→body J
def DR(H:Hp)(body:Hp→Prop):Prop:=∃R,aO H R∧body R
def oG:Code→Nat→Option (Array Oper)
  | .region id ops _,k=>cond (Nat.beq id k) (some ops) none
  | .seq a b,k=>match oG a k with|some x=>some x|none=>oG b k
  | .cond _ a b,k=>match oG a k with|some x=>some x|none=>oG b k
  | .block _ c,k=>oG c k
  | .loop c,k=>oG c k
  |_,_=>none
def Vo(P:Program)(g:Gh)(id:Nat)(ops:Array Oper)(L:List Nat)(vs:List Value)(H:Hp)(K:Hp→Prop):Prop:=
  ∀a w,iy a.tmps.size ops.toList=true→(L.map fun s=>a.tmps.getD s undef)=vs→Own g H w→
    (Code.region id ops true).wp P (fun e a' w'=>e=.normal∧a'.defers=a.defers∧a'.tmps.size=a.tmps.size∧(∀s,bP ops.toList s=false→a'.tmps.getD s undef=a.tmps.getD s undef)∧∃H',Own g H' w'∧K H') a w
def nR(f:Func)(r:Nat):Array Oper:=match f.body with|some c=>(match oG c r with|some ops=>ops|none=>#[])|none=>#[]
theorem Rl(fr:Fr)(L:List Nat):A2 fr L=L.map fr:=by induction L<;>simp[A2, *]
def den(P:Program)(g:Gh)(n:Nat):Code→Hn→(Exit→Fr→Hp→Prop)→Fr→Hp→Prop
  | .skip,_,Q,fr,H=>Q .normal fr H
  | .ret,_,Q,fr,H=>Q .ret fr H
  | .exit id,_,Q,fr,H=>Q (.exit id) fr H
  | .seq x y,hn,Q,fr,H=>
    match hn.m with
    |0=>den P g n x hn.a (y4 (den P g n y hn.b Q) Q) fr H
    |_=>cond (Qd x hn.I)
        (Zy hn.L.length (fun vs H'=>∀gs,den P g n y hn.b Q (mix hn.L vs hn.I fr gs) H') fun J=>den P g n x hn.a (y4 (fun fr' H'=>JE J (A2 fr' hn.L) H') Q) fr H) False
  | .cond c x y,hn,Q,fr,H=>Br (ev fr c) (den P g n x hn.a Q fr H) (den P g n y hn.b Q fr H)
  | .block id c,hn,Q,fr,H=>den P g n c hn.a (Og id Q) fr H
  | .loop c,hn,Q,fr,H=>
    cond (Qd c hn.I)
      (Loop hn.L (A2 fr hn.L) H fun J vs H'=>∀gs,den P g n c hn.a (y4 (fun fr' lT=>J (A2 fr' hn.L) lT) Q) (mix hn.L vs hn.I fr gs) H') False
  | .region id ops draw,hn,Q,fr,H=>
    cond draw
      (match hn.m with
      |0=>match hn.L with
       | []=>cond (P.follows .mixedOrders&&Region.lexB .any ops) (eO P g n ops true (ops.toList.length+1) true none [] ops.toList fr H (fun _ fr' H'=>Q .normal fr' H') (fun _ _=>False)) False
       |l=>cond (P.follows .mixedOrders&&Region.noSelect ops&&Nat.ble l.length ops.size)
          (DR H fun R=>Jb P g n ops R (fun fr' H'=>Q .normal fr' H') l (Array.replicate ops.size false) fr H) False
      |9=>cond (iy n ops.toList) (Vo P g id ops hn.L (A2 fr hn.L) H fun H'=>∀gs,Q .normal (ya ops.toList gs fr) H') False
      |_=>cond (P.follows .mixedOrders&&Region.noSelect ops)
          (DR H fun R=>oS P g n ops R (fun fr' H'=>Q .normal fr' H') hn.a [] (Array.replicate ops.size false) fr H) False)
      (eO P g n ops (match hn.I with| []=>false|_=>true) (ops.toList.length+1) false none [] ops.toList fr H (fun _ fr' H'=>Q .normal fr' H') (fun ch H'=>∀fr',Q (.panic ch) fr' H'))
  |_,_,_,_,_=>False
theorem yR{c:Code}{Q:Exit→Act→World→Prop}{a:Act}{w:World}(R:Act→World→Nat→Prop)(h₀:∃m,R a w m)
   (round:∀a w m,R a w m→c.wp P (Exit.then (fun a' w'=>∃m',m'<m∧R a' w' m') Q) a w):(Code.loop c).wp P Q a w:=by
  intro b k cs
  have key:∀n a w,R a w n→
      ∃e a' w',Q e a' w'∧Arrives P (lone (b.at a (.code c:: .inLoop c::k)) cs w) b k cs e a' w':=by
    intro n
    induction n using Nat.strongRecOn with
    |_ n ih=>
      intro a w hI
      obtain⟨e,a₁,w₁,hq,z7⟩:=round a w n hI b (.inLoop c::k) cs
      cases e with
      |normal=>
        obtain⟨m',hlt,YK⟩:=hq
        obtain⟨e₂,a₂,w₂,XA,QX⟩:=ih m' hlt a₁ w₁ YK
        exact⟨e₂,a₂,w₂,XA,.of_steps (Steps.trans z7 (.one step_inLoop)) QX⟩
      |exit id=>exact⟨_,a₁,w₁,hq,.pass (x:=.inLoop c) rfl (fun _ _=>.inl (by simp)) z7⟩
      |goto l=>exact⟨_,a₁,w₁,hq,.pass (x:=.inLoop c) rfl (fun _ _=>.inl (by simp)) z7⟩
      |ret=>exact⟨_,a₁,w₁,hq,.pass (x:=.inLoop c) rfl (fun _ _=>.inl (by simp)) z7⟩
      |panic ch=>exact⟨_,a₁,w₁,hq,.pass (x:=.inLoop c) rfl (fun _ _=>.inl (by simp)) z7⟩
      |outgrown=>exact⟨_,a₁,w₁,hq,.pass (x:=.inLoop c) rfl (fun _ _=>.inl (by simp)) z7⟩
  obtain⟨m,h₀⟩:=h₀
  obtain⟨e,a',w',hq,z7⟩:=key m a w h₀
  exact⟨e,a',w',hq,.of_steps (.one step_loop) z7⟩
def tG:Exit→Bool
  | .panic _=>true
  |_=>false
theorem kG{n:Nat}:∀(c:Code) (hn:Hn) (Q:Exit→Fr→Hp→Prop) (fr:Fr) (H:Hp),den P g n c hn Q fr H→∀(a:Act) (w:World),cD ds n a fr→Own g H w→c.wp P (fun e a' w'=>∃fr' H',cD ds n a' fr'∧Own g H' w'∧(tG e=false→∀s,r6 c s=false→fr' s=fr s)∧Q e fr' H') a w:=by
  intro c
  induction c with
  |skip=>intro hn Q fr H h a w ha hw;exact wp_skip ⟨fr,H,ha,hw,fun _ _ _=>rfl,h⟩
  |ret=>intro hn Q fr H h a w ha hw;exact wp_ret ⟨fr,H,ha,hw,fun _ _ _=>rfl,h⟩
  |exit id=>intro hn Q fr H h a w ha hw;exact wp_exit ⟨fr,H,ha,hw,fun _ _ _=>rfl,h⟩
  |seq x y Z4 Z3=>
    intro hn Q fr H h a w ha hw
    unfold den at h
    have W5:∀{Rn rN:Fr},(∀s,r6 x s=false→Rn s=fr s)→(∀s,r6 y s=false→rN s=Rn s)→∀s,r6 (.seq x y) s=false→rN s=fr s:=fun h1 h2 s hs=>by
      simp only[r6,Bool.or_eq_false_iff]at hs
      rw[h2 s hs.2,h1 s hs.1]
    have vn:∀{Rn:Fr},(∀s,r6 x s=false→Rn s=fr s)→∀s,r6 (.seq x y) s=false→Rn s=fr s:=fun h1 s hs=>by
      simp only[r6,Bool.or_eq_false_iff]at hs
      exact h1 s hs.1
    split at h
    · refine wp_seq (wp_mono (Z4 _ _ fr H h a w ha hw) ?_)
      rintro e a' w' ⟨fr',H',ew,dx,ho,hq⟩
      cases e with
      |normal=>exact wp_mono (Z3 _ _ fr' H' hq a' w' ew dx) fun e2 a2 w2 ⟨rN,H2,g1,g2,g3,g4⟩=>⟨rN,H2,g1,g2,fun hp=>W5 (ho rfl) (g3 hp),g4⟩
      |exit id=>exact⟨fr',H',ew,dx,fun hp=>vn (ho hp),hq⟩
      |goto l=>exact⟨fr',H',ew,dx,fun hp=>vn (ho hp),hq⟩
      |ret=>exact⟨fr',H',ew,dx,fun hp=>vn (ho hp),hq⟩
      |panic ch=>exact⟨fr',H',ew,dx,fun hp=>vn (ho hp),hq⟩
      |outgrown=>exact⟨fr',H',ew,dx,fun hp=>vn (ho hp),hq⟩
    · cases hno:Qd x hn.I<;>simp only[hno,cond_true,cond_false]at h
      have h':=h (fun vs H'=>∀gs,den P g n y hn.b Q (mix hn.L vs hn.I fr gs) H') (uX.intro (fun vs H' hh=>hh) _)
      refine wp_seq (wp_mono (Z4 _ _ fr H h' a w ha hw) ?_)
      rintro e a' w' ⟨fr',H',ew,dx,ho,hq⟩
      cases e with
      |normal=>
        obtain⟨Hj,tO,hq⟩:=hq
        have QG:den P g n y hn.b Q fr' Hj:=by
          have:=hq fr'
          rwa [tB fun s hs=>ho rfl s (tx hno s hs)]at this
        exact wp_mono (Z3 _ _ fr' Hj QG a' w' ew (tO _ _ dx)) fun e2 a2 w2 ⟨rN,H2,g1,g2,g3,g4⟩=>⟨rN,H2,g1,g2,fun hp=>W5 (ho rfl) (g3 hp),g4⟩
      |exit id=>exact⟨fr',H',ew,dx,fun hp=>vn (ho hp),hq⟩
      |goto l=>exact⟨fr',H',ew,dx,fun hp=>vn (ho hp),hq⟩
      |ret=>exact⟨fr',H',ew,dx,fun hp=>vn (ho hp),hq⟩
      |panic ch=>exact⟨fr',H',ew,dx,fun hp=>vn (ho hp),hq⟩
      |outgrown=>exact⟨fr',H',ew,dx,fun hp=>vn (ho hp),hq⟩
  |cond c x y Z4 Z3=>
    intro hn Q fr H h a w ha hw
    obtain⟨b,hb,ht,hf⟩:=h
    refine wp_cond_split (t:=b) (by rw[ha.eval];exact hb) (fun e=>?_) (fun e=>?_)
    · exact wp_mono (Z4 _ _ fr H (ht e) a w ha hw) fun e2 a2 w2 ⟨rN,H2,g1,g2,g3,g4⟩=>⟨rN,H2,g1,g2,fun hp s hs=>g3 hp s (by simp only[r6,Bool.or_eq_false_iff]at hs;exact hs.1),g4⟩
    · exact wp_mono (Z3 _ _ fr H (hf e) a w ha hw) fun e2 a2 w2 ⟨rN,H2,g1,g2,g3,g4⟩=>⟨rN,H2,g1,g2,fun hp s hs=>g3 hp s (by simp only[r6,Bool.or_eq_false_iff]at hs;exact hs.2),g4⟩
  |block id c ih=>
    intro hn Q fr H h a w ha hw
    refine wp_block (wp_mono (ih _ _ fr H h a w ha hw) ?_)
    rintro e a' w' ⟨fr',H',ew,dx,ho,hq⟩
    cases e with
    |exit id'=>
      simp only[Og]at hq
      cases hb:Nat.beq id' id<;>simp only[hb,cond_true,cond_false]at hq
      · have:id'≠id:=fun e=>by subst e;simp at hb
        simp only[Exit.inBlock,this,if_false]
        exact⟨fr',H',ew,dx,ho,hq⟩
      · have:=Nat.eq_of_beq_eq_true hb
        simp only[Exit.inBlock,this,if_true]
        exact⟨fr',H',ew,dx,ho,hq⟩
    |normal=>exact⟨fr',H',ew,dx,ho,hq⟩
    |goto l=>exact⟨fr',H',ew,dx,ho,hq⟩
    |ret=>exact⟨fr',H',ew,dx,ho,hq⟩
    |panic ch=>exact⟨fr',H',ew,dx,ho,hq⟩
    |outgrown=>exact⟨fr',H',ew,dx,ho,hq⟩
  |loop c ih=>
    intro hn Q fr H h a w ha hw
    unfold den at h
    cases hno:Qd c hn.I<;>simp only[hno,cond_true,cond_false]at h
    obtain⟨I,m,⟨H0,X8,h0⟩,hr⟩:=h
    refine yR (fun a w k=>∃fr' H',cD ds n a fr'∧Own g H' w∧(∀s,r6 c s=false→fr' s=fr s)∧I (A2 fr' hn.L) H'∧m (A2 fr' hn.L) H'=k) ⟨_,fr,H0,ha,X8 _ _ hw,fun _ _=>rfl,h0,rfl⟩ ?_
    rintro a w k ⟨Rn,H1,Cz,jz,Cd,hI,rfl⟩
    have hb:=hr.elim (A2 Rn hn.L) (CN _ _) H1 hI Rn
    rw[tB fun s hs=>Cd s (tx hno s hs)]at hb
    refine wp_mono (ih _ _ Rn H1 hb a w Cz jz) ?_
    rintro e a' w' ⟨fr',H',ew,dx,ho,hq⟩
    have bX:tG e=false→∀s,r6 c s=false→fr' s=fr s:=fun hp s hs=>(ho hp s hs).trans (Cd s hs)
    cases e with
    |normal=>obtain⟨Hj,tO,UE,hq2⟩:=hq;exact⟨_,hq2,fr',Hj,ew,tO _ _ dx,bX rfl,UE,rfl⟩
    |exit id=>exact⟨fr',H',ew,dx,bX,hq⟩
    |goto l=>exact⟨fr',H',ew,dx,bX,hq⟩
    |ret=>exact⟨fr',H',ew,dx,bX,hq⟩
    |panic ch=>exact⟨fr',H',ew,dx,bX,hq⟩
    |outgrown=>exact⟨fr',H',ew,dx,bX,hq⟩
  |region id ops draw=>
    intro hn Q fr H h a w ha hw
    unfold den at h
    cases draw<;>simp only[cond_true,cond_false]at h
    case false=>
      refine wp_region_list ?_
      have:=cK _ _ _ _ _ fr H _ _ h trivial (iC.nil fr) a w ha hw [] (fun e a' w'=>∃fr' H',cD ds n a' fr'∧Own g H' w'∧(tG e=false→∀s,r6 (.region id ops false) s=false→fr' s=fr s)∧Q e fr' H') ?_ ?_
      · simpa using this
      · intro a' w' o6 fr' H' h1 h2 h3 _ h4
        exact⟨fr',H',h1,h2,fun _=>h3,h4⟩
      · intro ch a' w' fr' H' h1 h2 h3
        exact⟨fr',H',h1,h2,fun hp=>by simp[tG]at hp,h3 fr'⟩
    case true=>
      split at h
      · split at h
        · cases hc:(P.follows .mixedOrders&&Region.lexB .any ops)<;>simp only[hc,cond_true,cond_false]at h
          simp only[Bool.and_eq_true]at hc
          refine wp_region_quiet (C:=Own g H) hc.1 hc.2 hw.wF ?_
          have:=dI _ none _ ops.toList fr H _ _ h trivial (iC.nil fr) a ha [] (fun a'=>∀w',Own g H w'→∃fr' H',cD ds n a' fr'∧Own g H' w'∧(tG .normal=false→∀s,r6 (.region id ops true) s=false→fr' s=fr s)∧Q .normal fr' H') ?_
          · simpa using this
          · intro a' o6 fr' h1 h3 _ h4
            exact fun w' dx=>⟨fr',H,h1,dx,fun _=>h3,h4⟩
        · cases hc:(P.follows .mixedOrders&&Region.noSelect ops&&Nat.ble hn.L.length ops.size)<;>simp only[hc,cond_true,cond_false]at h
          simp only[Bool.and_eq_true]at hc
          obtain⟨R,hR,h⟩:=h
          refine wp_mono (Q:=qf fun e a' w'=>∃fr' H',cD ds n a' fr'∧Own g H' w'∧(tG e=false→∀s,r6 (.region id ops true) s=false→fr' s=fr s)∧Q e fr' H') ?_ ?_
          · refine wp_region_any hc.1.1 (dm.any (S:=oh P g R ops) ?_)
            exact p7 hc.1.2 fr (fun a w fr' H' h1 h2 h3 h4=>⟨fr',H',h1,h2,fun _=>h3,h4⟩) _ _ fr H h _ (Nat.le_of_ble_eq_true hc.2) (fb.none _ rfl) _ _ ha hw.wF (fun _=>(hR _ _ hw).wF) (eE.refl _ _)
          · intro e a w h
            cases e<;>first|exact h|exact h.elim
      · cases hc:iy n ops.toList<;>simp only[hc,cond_true,cond_false]at h
        refine wp_mono (h a w (by rw[ha.size];exact hc) (by rw[Rl];exact List.map_congr_left fun s _=>ha.get s) hw) ?_
        rintro e a' w' ⟨rfl,hd,hs,ho,H',dx,hk⟩
        refine⟨ya ops.toList (fun s=>a'.tmps.getD s undef) fr,H',⟨hd.trans ha.defers,hs.trans ha.size,fun s=>?_⟩,dx,fun _ s hs=>?_,hk _⟩
        · unfold ya
          cases hb:bP ops.toList s
          · rw[cond_false,ho s hb,ha.get]
          · rfl
        · unfold ya;simp only[r6]at hs;rw[hs,cond_false]
      · cases hc:(P.follows .mixedOrders&&Region.noSelect ops)<;>simp only[hc,cond_true,cond_false]at h
        simp only[Bool.and_eq_true]at hc
        obtain⟨R,hR,h⟩:=h
        refine wp_mono (Q:=qf fun e a' w'=>∃fr' H',cD ds n a' fr'∧Own g H' w'∧(tG e=false→∀s,r6 (.region id ops true) s=false→fr' s=fr s)∧Q e fr' H') ?_ ?_
        · refine wp_region_any hc.1 (dm.any (S:=oh P g R ops) ?_)
          refine e7 hc.2 fr (fun a w fr' H' h1 h2 h3 h4=>⟨fr',H',h1,h2,fun _=>h3,h4⟩) _ _ [] _ fr H h [] _ fr (by rw[Array.toList_replicate,vz];exact Nat.le_refl _) ⟨by simp,by simp,by simp,fun _ _=>rfl,by simp,fun j x hx=>by simp[fD]at hx⟩ (fb.none _ rfl) _ _ ha hw.wF (fun _=>(hR _ _ hw).wF) (eE.refl _ _)
        · intro e a w h
          cases e<;>first|exact h|exact h.elim
  |label l=>intro hn Q fr H h;exact h.elim
  |goto l=>intro hn Q fr H h;exact h.elim
  |scope c _=>intro hn Q fr H h;exact h.elim
  |refuse s=>intro hn Q fr H h;exact h.elim
  |rangeFunc f ps as b _ _=>intro hn Q fr H h;exact h.elim
def aq(R:Ending→Hp→Prop):List PanicEntry→Hp→Prop:=fun ch H=>∀_:Fr,R (.panicked ch) H
def aU:List PanicEntry→Hp→Prop:=fun _ _=>False
def tg:Code→Nat→Option (Array Oper)
  | .region id ops _,k=>cond (Nat.beq id k) (some ops) none
  | .seq a b,k=>match tg a k with|some x=>some x|none=>tg b k
  | .cond _ a b,k=>match tg a k with|some x=>some x|none=>tg b k
  | .block _ c,k=>tg c k
  | .loop c,k=>tg c k
  |_,_=>none
def fX(f:Func)(r i:Nat):Oper:=match f.body with|some c=>(match tg c r with|some ops=>(match ops[i]? with|some o=>o|none=>default)|none=>default)|none=>default
def jk:List Value→Nat→Fr
  | [],_=>fun _=>undef
  |v::r,i=>fun s=>cond (Nat.beq s i) v (jk r (i+1) s)
def tf(P:Program)(fr:Fr)(H:Hp):List ResultVar→(List Value→Prop)→Prop
  | [],k=>k []
  | .tmp t::r,k=>tf P fr H r fun vs=>k (fr t::vs)
  | .cell a t::r,k=>match P.underlying t,dO P t with
    |some d,some n=>cond (cO d) (az n H (fr a) fun v=>tf P fr H r fun vs=>k (v::vs)) (Ld H (fr a) fun v=>tf P fr H r fun vs=>k (v::vs))
    |_,_=>False
def BA:List Value→Value
  | [v]=>v
  |vs=>.tuple vs.toArray
def aec(P:Program)(fn:Func)(R:Ending→Hp→Prop):Exit→Fr→Hp→Prop
  | .normal,fr,H=>tf P fr H fn.results.toList fun vs=>R (.returned (BA vs)) H
  | .ret,fr,H=>tf P fr H fn.results.toList fun vs=>R (.returned (BA vs)) H
  | .panic ch,_,H=>R (.panicked ch) H
  |_,_,_=>False
def Ja(P:Program)(g:Gh)(fn:Func)(hn:Hn)(args:List Value)(H:Hp)(R:Ending→Hp→Prop):Prop:=
  match fn.body with
  |some c=>cond (Nat.ble args.length fn.ntmps) (den P g fn.ntmps c hn (aec P fn R) (jk args 0) H) False
  |none=>False
theorem lq:∀(l:List Value) (i s:Nat),jk l i s=if s<i then undef else l.getD (s-i) undef
  | [],i,s=>by simp[jk]
  |v::r,i,s=>by
    simp only[jk,lq r (i+1) s]
    cases hb:Nat.beq s i
    · have hne:s≠i:=fun e=>by subst e;simp at hb
      simp only[cond_false]
      by_cases h:s<i
      · rw[if_pos (by omega),if_pos h]
      · rw[if_neg (by omega),if_neg h,show s-i=(s-(i+1))+1 by omega]
        simp[List.getD]
    · have:=Nat.eq_of_beq_eq_true hb;subst this
      simp[List.getD]
def HW(fr:Fr):ResultVar→Sem Value
  | .tmp t=>pure (fr t)
  | .cell b t=>do loadVar t (←asAddr (fr b))
theorem rH{fr:Fr}{H:Hp}{w:World}(hw:Own g H w){b:Tmp}{t:TypeId}{v:Value}{p:Addr}(hp:fr b=.pointer (some p))(h:(Instr.loadAt t (fr b)).run P w=.ok v w):(HW fr (.cell b t)).run P w=.ok v w:=by
  rw[hp]at h
  simp only[HW,hp,asAddr]
  simpa[Instr.loadAt,Instr.sureAddr]using h
theorem pE{fr:Fr}{H:Hp}{w:World}(hw:Own g H w):∀(l:List ResultVar) (k:List Value→Prop),tf P fr H l k→
    ∃vs,(l.mapM (HW fr)).run P w=.ok vs w∧k vs
  | [],k,h=>⟨[],by simp,h⟩
  | .tmp t::r,k,h=>by
    obtain⟨vs,hr,hk⟩:=pE hw r _ h
    refine⟨fr t::vs,?_,hk⟩
    simp only[List.mapM_cons,Sem.run_bind,Sem.run_pure,Result.andThen_ok,hr,HW]
  | .cell b t::r,k,h=>by
    unfold tf at h
    split at h<;>try exact h.elim
    rename_i d m hd hm
    obtain⟨i,hi,V7⟩:=bU hm
    cases hag:cO d<;>simp only[hag,cond_true,cond_false]at h
    · obtain⟨v,hk',hf⟩:=h.fix
      obtain⟨v2,nS,e⟩:=hf.run (P:=P) hw hd hag
      subst e
      obtain⟨bb,off,c,T,fz,u,hp,_⟩:=hf
      obtain⟨vs,hr,hk⟩:=pE hw r _ hk'
      refine⟨v2::vs,?_,hk⟩
      have:=rH hw hp nS
      simp only[List.mapM_cons,Sem.run_bind,Result.andThen_ok,hr,Sem.run_pure,this]
    · obtain⟨v,hk',hf⟩:=h.fix
      obtain⟨v2,nS,e⟩:=hf.run (P:=P) hw hd hag hi V7
      subst e
      obtain⟨bb,off,c,T,fz,hp,_⟩:=hf
      obtain⟨vs,hr,hk⟩:=pE hw r _ hk'
      refine⟨v2::vs,?_,hk⟩
      have:=rH hw hp nS
      simp only[List.mapM_cons,Sem.run_bind,Result.andThen_ok,hr,Sem.run_pure,this]
theorem ic{fn:Func}{fr:Fr}{H:Hp}{n:Nat}{a:Act}{w:World}(ha:cD ds n a fr)(hw:Own g H w){k:List Value→Prop}(h:tf P fr H fn.results.toList k):
    ∃vs,(results fn a.tmps).run P w=.ok (BA vs) w∧k vs:=by
  obtain⟨vs,hr,hk⟩:=pE (P:=P) hw _ _ h
  refine⟨vs,?_,hk⟩
  have e:results fn a.tmps=(do let vs ←fn.results.mapM (HW fr);pure (if h:vs.size=1 then vs[0]else .tuple vs)):=by
    unfold results
    congr 1
    congr 1
    funext x
    cases x<;>simp only[HW,ha.get]
  rw[e,Array.mapM_eq_mapM_toList]
  simp only[Sem.run_bind,Sem.run_map,hr,Result.andThen_ok,Sem.run_pure]
  congr 1
  match vs with
  | []=>rfl
  | [v]=>rfl
  |a::b::r=>simp[BA]
theorem CZ{f:FuncId}{fn:Func}{hn:Hn}{args:List Value}{H:Hp}{R:Ending→Hp→Prop}(hf:P.funcs[f]? =some fn)(h:Ja P g fn hn args H R):ai P g f args.toArray H R:=by
  intro w hw
  unfold Ja at h
  split at h<;>try exact h.elim
  rename_i c hc
  cases hl:Nat.ble args.length fn.ntmps<;>simp only[hl,cond_true,cond_false]at h
  have hle:=Nat.le_of_ble_eq_true hl
  refine calls_of_wp hf hc (wp_mono (kG c hn _ _ H h _ w ⟨rfl,?_,?_⟩ hw) ?_)
  · simp;omega
  · intro s
    rw[lq,Array.getD_eq_getD_getElem?,Array.getElem?_append]
    simp only[List.size_toArray,Nat.not_lt_zero,if_false,Nat.sub_zero]
    by_cases hs:s<args.length
    · simp[hs,List.getD]
    · rw[if_neg hs]
      rw[Array.getElem?_replicate]
      have:args.getD s undef=undef:=by simp[List.getD,List.getElem?_eq_none (Nat.le_of_not_lt hs)]
      rw[this]
      split<;>rfl
  · rintro e a' w' ⟨fr',H',ew,dx,_,hq⟩
    cases e with
    |normal=>obtain⟨vs,hr,hk⟩:=ic ew dx hq;exact⟨ew.defers,_,hr,H',dx,hk⟩
    |ret=>obtain⟨vs,hr,hk⟩:=ic ew dx hq;exact⟨ew.defers,_,hr,H',dx,hk⟩
    |panic ch=>exact⟨ew.defers,H',dx,hq⟩
    |exit id=>exact hq.elim
    |goto l=>exact hq.elim
    |outgrown=>exact hq.elim
end
end Go.Sx
namespace Go.Sx
open Go
section
variable {P:Program} {g:Gh} {H:Hp}
theorem Nil.ptr{a:Addr}{k:Value→Prop}(h:k (.pointer (some a))):Nil (.pointer (some a)) k:=⟨_,rfl,h⟩
theorem aa.mk{b o off:Nat}{k:Value→Prop}(h:k (.pointer (some ⟨b,o+off,none⟩))):aa off (.pointer (some ⟨b,o,none⟩)) k:=⟨b,o,rfl,h⟩
theorem Ld.mk{b off:Nat}{c:Array Value}{T:TypeId}{fz:Nat×Nat}{v:Value}{k:Value→Prop}(hm:(b,Obj.cells c T fz)∈H)(hc:c[off]? =some v)(h:k v):Ld H (.pointer (some ⟨b,off,none⟩)) k:=
 ⟨b,off,c,T,fz,v,rfl,hm,hc,h⟩
theorem az.mk{b off n:Nat}{c:Array Value}{T:TypeId}{fz:Nat×Nat}{vs:Array Value}{k:Value→Prop}(hm:(b,Obj.cells c T fz)∈H)(hs:off+n≤c.size)(hc:c.extract off (off+n)=vs)(h:k (.agg vs)):az n H (.pointer (some ⟨b,off,none⟩)) k:=
 ⟨b,off,c,T,fz,rfl,hm,hs,by rw[hc];exact h⟩
theorem St.mk{b off n:Nat}{c:Array Value}{T:TypeId}{x:Value}{c':Array Value}{H':Hp}{k:Hp→Prop}(hu:cJ b (.cells c T (0,0)) (.cells c' T (0,0)) H H')(hx:x.cells.size=n)(hs:off+n≤c.size)
 (h1:∀v∈x.cells.toList,v.oneCell'=true)(hc:ji c off x.cells.toList=c')(h:k H'):St n H (.pointer (some ⟨b,off,none⟩)) x k:=
 ⟨b,off,c,T,H',rfl,hx,hs,h1,by rw[hc];exact hu,h⟩
theorem JE.mk{J:List Value→Hp→Prop}{vs:List Value}(h:J vs H):JE J vs H:=⟨H,.refl _,h⟩
theorem JE.of{J:List Value→Hp→Prop}{vs:List Value}{H':Hp}(e:aO H H')(h:J vs H'):JE J vs H:=⟨H',e,h⟩
theorem ay.mk{I:List Value→Hp→Prop}{m:List Value→Hp→Nat}{vs' vs:List Value}{H0:Hp}(h:I vs' H)(hm:m vs' H<m vs H0):ay I m vs' H vs H0:=⟨H,.refl _,h,hm⟩
theorem ay.of{I:List Value→Hp→Prop}{m:List Value→Hp→Nat}{vs' vs:List Value}{H' H0:Hp}(e:aO H H')(h:I vs' H')(hm:m vs' H'<m vs H0):ay I m vs' H vs H0:=⟨H',e,h,hm⟩
theorem Br.mk{b:Bool}{t f:Prop}(h1:b=true→t)(h2:b=false→f):Br (.bool b) t f:=⟨b,rfl,h1,h2⟩
theorem Br.yes{t f:Prop}(h1:t):Br (.bool true) t f:=⟨true,rfl,fun _=>h1,fun h=>by simp at h⟩
theorem Br.no{t f:Prop}(h1:f):Br (.bool false) t f:=⟨false,rfl,fun h=>by simp at h,fun _=>h1⟩
theorem Br.WE{b:Bool}{t f:Prop}(hb:b=true)(h1:t):Br (.bool b) t f:=by subst hb;exact Br.yes h1
theorem Br.no'{b:Bool}{t f:Prop}(hb:b=false)(h1:f):Br (.bool b) t f:=by subst hb;exact Br.no h1
theorem bM.mk{a:Bool}{want:Bool}{inner els k:Bool→Prop}(t:Bool)(h1:a=want→inner t)(h2:a= !want→els t)(h3:k t):bM (.bool a) want inner els k:=⟨a,t,rfl,h1,h2,h3⟩
theorem bM.and{a:Bool}{inner els k:Bool→Prop}(b:Bool)(h1:a=true→inner b)(h2:els false)(h3:k (a&&b)):bM (.bool a) true inner els k:=
 ⟨a,a&&b,rfl,fun e=>by subst e;exact h1 rfl,fun e=>by subst e;exact h2,h3⟩
theorem bM.or{a:Bool}{inner els k:Bool→Prop}(b:Bool)(h1:a=false→inner b)(h2:els true)(h3:k (a||b)):bM (.bool a) false inner els k:=
 ⟨a,a||b,rfl,fun e=>by subst e;exact h1 rfl,fun e=>by subst e;exact h2,h3⟩
theorem Split.go{a:Bool}{want:Bool}{k1 k2:Prop}(e:a=want)(h1:k1):Split (.bool a) want k1 k2:=⟨a,rfl,fun _=>h1,fun e'=>by subst e;cases a<;>simp at e'⟩
theorem Split.Ud{a:Bool}{want:Bool}{k1 k2:Prop}(e:a= !want)(h1:k2):Split (.bool a) want k1 k2:=⟨a,rfl,fun e'=>by subst e';cases a<;>simp at e,fun _=>h1⟩
theorem aA.mk{t:Bool}{a b:Value}{k:Value→Prop}(h:k (cond t a b)):aA (.bool t) a b k:=⟨t,rfl,h⟩
theorem Un.not{b:Bool}{k:Value→Prop}(h:k (.bool !b)):Un .not (.bool b) k:=⟨_,rfl,h⟩
theorem Ext.mk{i:Nat}{vs:Array Value}{v:Value}{k:Value→Prop}(hv:vs[i]? =some v)(h:k v):Ext i (.tuple vs) k:=⟨vs,v,rfl,hv,h⟩
theorem aG.mk{a:Option Addr}{n c:Nat}{k:Value→Prop}(h:k (.int .i64 n)):aG (.slice a n c) k:=⟨a,n,c,rfl,h⟩
theorem bL.of{kd j:IntKind}{n m:Int}{k:Value→Prop}(e:kd.wrap n=m)(h:k (.int kd m)):bL kd (.int j n) k:=⟨j,n,rfl,by rw[e];exact h⟩
theorem Bb.mk{off:Nat}{cs:Array Value}{v:Value}{k:Value→Prop}(hc:cs[off]? =some v)(h:k v):Bb off (.agg cs) k:=⟨cs,v,rfl,hc,h⟩
theorem ah.mk{size b o n c:Nat}{kd:IntKind}{i:Int}{k:Value→Prop}(h0:0≤i)(h1:i<(n:Int))(h:k (.pointer (some ⟨b,o+i.toNat*size,none⟩))):ah size (.slice (some ⟨b,o,none⟩) n c) (.int kd i) k:=
 ⟨b,o,n,c,kd,i,rfl,rfl,h0,h1,h⟩
theorem ah.nat{size b o n c:Nat}{kd:IntKind}{j:Nat}{k:Value→Prop}(h1:j<n)(h:k (.pointer (some ⟨b,o+j*size,none⟩))):ah size (.slice (some ⟨b,o,none⟩) n c) (.int kd (j:Int)) k:=
 ah.mk (Int.natCast_nonneg j) (by omega) (by simpa using h)
theorem ah.of{size b o n c:Nat}{kd:IntKind}{i:Int}{k:Value→Prop}(j:Nat)(e:i=(j:Int))(h1:j<n)(h:k (.pointer (some ⟨b,o+j*size,none⟩))):ah size (.slice (some ⟨b,o,none⟩) n c) (.int kd i) k:=by
 subst e;exact ah.nat h1 h
theorem ae.eql{kd:IntKind}{a b:Int}{k:Value→Prop}(h:k (.bool (a==b))):ae .num .eql (.int kd a) (.int kd b) k:=⟨_,by simp[gA,kD],h⟩
theorem ae.neq{kd:IntKind}{a b:Int}{k:Value→Prop}(h:k (.bool (a !=b))):ae .num .neq (.int kd a) (.int kd b) k:=⟨_,by simp[gA,kD],h⟩
theorem ae.lss{kd:IntKind}{a b:Int}{k:Value→Prop}(h:k (.bool (decide (a<b)))):ae .num .lss (.int kd a) (.int kd b) k:=⟨_,by simp[gA,kD],h⟩
theorem ae.leq{kd:IntKind}{a b:Int}{k:Value→Prop}(h:k (.bool (decide (a≤b)))):ae .num .leq (.int kd a) (.int kd b) k:=⟨_,by simp[gA,kD],h⟩
theorem ae.gtr{kd:IntKind}{a b:Int}{k:Value→Prop}(h:k (.bool (decide (b<a)))):ae .num .gtr (.int kd a) (.int kd b) k:=⟨_,by simp[gA,kD],h⟩
theorem ae.geq{kd:IntKind}{a b:Int}{k:Value→Prop}(h:k (.bool (decide (b≤a)))):ae .num .geq (.int kd a) (.int kd b) k:=⟨_,by simp[gA,kD],h⟩
theorem ae.add{kd:IntKind}{a b:Int}{k:Value→Prop}(h:k (.int kd (kd.wrap (a+b)))):ae .num .add (.int kd a) (.int kd b) k:=⟨_,by simp[gA,kD],h⟩
theorem ae.sub{kd:IntKind}{a b:Int}{k:Value→Prop}(h:k (.int kd (kd.wrap (a-b)))):ae .num .sub (.int kd a) (.int kd b) k:=⟨_,by simp[gA,kD],h⟩
theorem ae.mul{kd:IntKind}{a b:Int}{k:Value→Prop}(h:k (.int kd (kd.wrap (a*b)))):ae .num .mul (.int kd a) (.int kd b) k:=⟨_,by simp[gA,kD],h⟩
theorem wrap_i64{a:Int}(h: -9223372036854775808≤a∧a≤9223372036854775807):IntKind.i64.wrap a=a:=IntWalk.i64_in _ h
theorem ae.wO{a b:Int}{c:Int}{k:Value→Prop}(e:a+b=c)(hb: -9223372036854775808≤c∧c≤9223372036854775807)(h:k (.int .i64 c)):ae .num .add (.int .i64 a) (.int .i64 b) k:=
 ae.add (by rw[e,wrap_i64 hb];exact h)
theorem ae.mq{a b:Int}{c:Int}{k:Value→Prop}(e:a-b=c)(hb: -9223372036854775808≤c∧c≤9223372036854775807)(h:k (.int .i64 c)):ae .num .sub (.int .i64 a) (.int .i64 b) k:=
 ae.sub (by rw[e,wrap_i64 hb];exact h)
theorem ae.Xa{a b:Int}{c:Int}{k:Value→Prop}(e:a*b=c)(hb: -9223372036854775808≤c∧c≤9223372036854775807)(h:k (.int .i64 c)):ae .num .mul (.int .i64 a) (.int .i64 b) k:=
 ae.mul (by rw[e,wrap_i64 hb];exact h)
theorem ae.LV{a b:Int}{c:Int}{k:Value→Prop}(hb0:b≠0)(e:a.tdiv b=c)(hb: -9223372036854775808≤c∧c≤9223372036854775807)(h:k (.int .i64 c)):ae .num .quo (.int .i64 a) (.int .i64 b) k:=
 ⟨.int .i64 c,by simp[gA,kD,hb0,e,wrap_i64 hb],h⟩
theorem ae.aJ{a:Addr}{k:Value→Prop}(h:k (.bool false)):ae .ptr .eql (.pointer (some a)) (.pointer none) k:=⟨.bool false,by simp[gA],h⟩
theorem ae.bG{k:Value→Prop}(h:k (.bool true)):ae .ptr .eql (.pointer none) (.pointer none) k:=⟨.bool true,by simp[gA],h⟩
theorem ae.bJ{a:Option Nat}{k:Value→Prop}(h:k (.bool a.isNone)):ae .map .eql (.map a) (.map none) k:=⟨.bool a.isNone,by simp[gA],h⟩
theorem ae.ab2{a b:Bool}{k:Value→Prop}(h:k (.bool (!(a==b)))):ae .bool .neq (.bool a) (.bool b) k:=⟨_,by simp[gA],h⟩
theorem aO.R8(A B C:Hp):aO (A++(B++C)) (B++(A++C)):=.perm (by rw[←List.append_assoc,←List.append_assoc];exact List.perm_append_comm.append_right C)
def flat:List Hp→Hp
 | []=>[]
 | [a]=>a
 |a::b::r=>a++flat (b::r)
theorem qR:∀(l:List Hp),(flat l).Perm l.flatten
 | []=>.refl _
 | [a]=>by simp[flat]
 |a::b::r=>by
  simp only[flat,List.flatten_cons]
  exact List.Perm.append_left _ (by simpa using qR (b::r))
theorem aO.W0(S T:List Hp)(h:S.Perm T):aO (flat S) (flat T):=
 .perm ((qR S).trans (h.flatten.trans (qR T).symm))
def rows(l:List (List Value)):Array Value:=l.flatten.toArray
theorem rO{k:Nat}:∀(l:List (List Value)) (i j:Nat),(∀r∈l,r.length=k)→j<k→l.flatten[i*k+j]? =(l[i]?).bind (·[j]?)
 | [],i,j,_,_=>by simp
 |r::l,0,j,h,hj=>by
  have:=h r (by simp)
  simp[List.getElem?_append,this,hj]
 |r::l,i+1,j,h,hj=>by
  have hr:=h r (by simp)
  have ih:=rO l i j (fun x hx=>h x (by simp[hx])) hj
  rw[List.flatten_cons,List.getElem?_append_right (by rw[hr,Nat.succ_mul];omega),hr,show(i+1)*k+j-k=i*k+j by rw[Nat.succ_mul];omega,ih]
  simp
theorem di{k:Nat}:∀(l:List (List Value)),(∀r∈l,r.length=k)→l.flatten.length=l.length*k
 | [],_=>by simp
 |r::l,h=>by
  have hr:=h r (by simp)
  rw[List.flatten_cons,List.length_append,hr,di l (fun x hx=>h x (by simp[hx]))]
  simp[Nat.succ_mul];omega
theorem bS{k:Nat}{l:List (List Value)}(h:∀r∈l,r.length=k):(rows l).size=l.length*k:=by simp[rows,di l h]
theorem ia{k:Nat}{l:List (List Value)}(h:∀r∈l,r.length=k){i j:Nat}(hj:j<k):(rows l)[i*k+j]? =(l[i]?).bind (·[j]?):=by
 simp only[rows,List.getElem?_toArray];exact rO l i j h hj
theorem xD{k:Nat}{l:List (List Value)}(h:∀r∈l,r.length=k){i:Nat}{r:List Value}(hi:l[i]? =some r):(rows l).extract (i*k) (i*k+k)=r.toArray:=by
 have hr:=h r (List.mem_of_getElem? hi)
 have hlt:=(List.getElem?_eq_some_iff.1 hi).1
 apply Array.ext'
 apply List.ext_getElem?
 intro j
 by_cases hj:j<k
 ·have:=ia h (i:=i) hj
  rw[Array.getElem?_toList,Array.getElem?_extract]
  rw[if_pos (by rw[bS h];have:=Nat.mul_le_mul_right k (Nat.succ_le_of_lt hlt);rw[Nat.succ_mul]at this;omega),this,hi]
  simp
 ·rw[List.getElem?_eq_none (by simp;omega),List.getElem?_eq_none (by simp;omega)]
theorem pG:∀(vs:List Value) (c:List Value) (off:Nat),off+vs.length≤c.length→ji c.toArray off vs=(c.take off++vs++c.drop (off+vs.length)).toArray
 | [],c,off,_=>by simp[ji]
 |v::r,c,off,h=>by
  simp only[List.length_cons]at h
  have hl:off<c.length:=by omega
  have:c.toArray.setIfInBounds off v=(c.set off v).toArray:=by simp
  rw[ji,this,pG r (c.set off v) (off+1) (by simp only[List.length_set];omega)]
  congr 1
  have e1:(c.set off v).take (off+1)=c.take off++[v]:=by
   rw[List.set_eq_take_append_cons_drop,if_pos hl,List.take_append]
   simp[List.take_take,hl,Nat.min_eq_left (Nat.le_of_lt hl)]
  have e2:(c.set off v).drop (off+1+r.length)=c.drop (off+(v::r).length):=by
   rw[List.drop_set_of_lt (by omega)]
   simp only[List.length_cons]
   rw[show off+1+r.length=off+(r.length+1)by omega]
  rw[e1,e2];simp
theorem zf{k:Nat}{l:List (List Value)}(h:∀r∈l,r.length=k){i:Nat}(hi:i<l.length){r:List Value}(hr:r.length=k):ji (rows l) (i*k) r=rows (l.set i r):=by
 unfold rows
 have hlen:=di l h
 have hle:i*k+k≤l.length*k:=by have:=Nat.mul_le_mul_right k (Nat.succ_le_of_lt hi);rwa [Nat.succ_mul]at this
 rw[pG r l.flatten (i*k) (by rw[hlen,hr];exact hle)]
 congr 1
 have e:l=l.take i++[l[i]]++l.drop (i+1):=by simp
 have hp:(l.take i).flatten.length=i*k:=by
  rw[di _ (fun x hx=>h x (List.mem_of_mem_take hx))];simp[Nat.min_eq_left (Nat.le_of_lt hi)]
 have hm:l[i].length=k:=h _ (List.getElem_mem hi)
 have e3:l.flatten=(l.take i).flatten++(l[i]++(l.drop (i+1)).flatten):=by
  rw[←List.flatten_cons,←List.flatten_append,←List.drop_eq_getElem_cons hi,List.take_append_drop]
 have e4:(l.set i r).flatten=(l.take i).flatten++(r++(l.drop (i+1)).flatten):=by
  rw[List.set_eq_take_append_cons_drop,if_pos hi];simp[List.flatten_append]
 rw[e4,e3,←hp,List.take_left,←List.drop_drop,List.drop_left,hr,←hm,List.drop_left]
 simp
end
end Go.Sx
namespace Go.Sx
open Go
section
variable {P:Program} {g:Gh}
theorem cJ.bI{b:Nat}{o o':Obj}{C C':Hp}(h:cJ b o o' C C')(A:Hp):cJ b o o' (A++C) (A++C'):=by
 induction A with
 |nil=>exact h
 |cons x A ih=>exact .tail ih
def aS(T:TypeId)(k:Nat)(v:Value)(rs:List (List Value))(C:Hp):Prop:=
 (v=.slice none 0 0∧rs=[]∧C=[])∨
 ∃b aL,v=.slice (some ⟨b,0,none⟩) rs.length (rs.length+aL.length)∧C=[(b,.cells (rows (rs++aL)) T (0,0))]∧(∀r∈rs++aL,r.length=k)
theorem aS.nil(T:TypeId)(k:Nat):aS T k (.slice none 0 0) [] []:=.inl ⟨rfl,rfl,rfl⟩
theorem aS.len{T:TypeId}{k:Nat}{v:Value}{rs:List (List Value)}{C:Hp}(h:aS T k v rs C):∃a c,v=.slice a rs.length c:=by
 rcases h with⟨rfl,rfl,rfl⟩|⟨b,aL,rfl,_⟩
 ·exact⟨_,_,rfl⟩
 ·exact⟨_,_,rfl⟩
theorem aS.aR{T:TypeId}{k:Nat}{v:Value}{rs:List (List Value)}{C:Hp}(h:aS T k v rs C){K:Value→Prop}(hk:K (.int .i64 rs.length)):aG v K:=by
 obtain⟨a,c,rfl⟩:=h.len;exact aG.mk hk
theorem pe{k:Nat}(z:List Value)(hz:z.length=k)(m:Nat):Builtin.zeroCells z.toArray m=rows (List.replicate m z):=by
 apply Array.ext'
 apply List.ext_getElem?
 intro j
 have aK:∀r∈List.replicate m z,r.length=k:=fun r hr=>by rw[List.eq_of_mem_replicate hr,hz]
 by_cases hj:j<m*k
 ·have hk:0<k:=Nat.pos_of_ne_zero fun e=>by simp[e]at hj
  have hd:j/k<m:=Nat.div_lt_of_lt_mul (by rw[Nat.mul_comm];exact hj)
  have hm:j%k<k:=Nat.mod_lt _ hk
  have he:j/k*k+j%k=j:=by rw[Nat.mul_comm];exact Nat.div_add_mod j k
  have:=ia aK (i:=j/k) hm
  rw[he]at this
  rw[Array.getElem?_toList,Array.getElem?_toList,this]
  simp only[Builtin.zeroCells,List.size_toArray,hz,List.getElem?_replicate,hd,if_true,Option.bind_some]
  rw[Array.getElem?_map,Array.getElem?_range]
  simp[hj,hz,hm]
 ·rw[List.getElem?_eq_none,List.getElem?_eq_none]
  ·simp only[Array.length_toList,bS aK,List.length_replicate];omega
  ·simp[Builtin.zeroCells,hz];omega
theorem ei(a b:List (List Value)):rows a++rows b=rows (a++b):=by simp[rows,List.flatten_append]
theorem aS.Dg{elem k bytes:Nat}{zero:Value}{v:Value}{rs:List (List Value)}{C A B:Hp}(h:aS elem k v rs C){xb:Nat}{r:List Value}{xT:TypeId}{fz:Nat×Nat}{xc:Nat}
 (hx:(xb,Obj.cells r.toArray xT fz)∈A++(C++B))(hr:r.length=k)(h1:∀u∈r,u.oneCell'=true)(hz:∃z:List Value,zero.cells=z.toArray∧z.length=k)
 (hb:(rs.length+1)*bytes≤140737488355328)(bE:rs.length+1≤9223372036854775807){K:Value→Hp→Prop}
 (hk:∀v' C',aS elem k v' (rs++[r]) C'→K v' (A++(C'++B))):App P elem k bytes zero (A++(C++B)) v (.slice (some ⟨xb,0,none⟩) 1 xc) K:=by
 have GH:∀x∈[r],x.length=k:=fun x hx=>by simp at hx;rw[hx];exact hr
 obtain⟨z,Xo,Qz⟩:=hz
 have hnews:Cells (A++(C++B)) (some ⟨xb,0,none⟩) (1*k) (rows [r]):=.inr ⟨rfl,_,_,_,hx,by simp[hr],by simp[rows];rw[←hr,List.take_length]⟩
 have hnone:∀u∈(rows [r]).toList,u.oneCell'=true:=by simpa[rows]using h1
 rcases h with⟨rfl,rfl,rfl⟩|⟨b,aL,rfl,rfl,aK⟩
 ·refine⟨none,0,0,some ⟨xb,0,none⟩,1,xc,#[],rows [r],rfl,rfl,rfl,hnews,by rw[bS GH];simp,by simp,hnone,fun h=>by omega,fun _=>⟨hb,by omega,fun fY hn b hbf=>?_⟩⟩
  rw[show(#[]:Array Value)++rows [r]++Builtin.zeroCells zero.cells (fY-(0+1))=rows ([]++[r]++List.replicate (fY-1) z)by rw[Xo,pe z Qz];simp only[Nat.zero_add,Array.empty_append,List.nil_append];rw[ei]]
  refine⟨_,aO.R8 [(b,_)] A B,hk _ [(b,_)] (.inr ⟨b,List.replicate (fY-1) z,?_,rfl,?_⟩)⟩
  ·simp;omega
  ·intro x hx
   rcases List.mem_append.1 hx with hx|hx
   ·exact GH x hx
   ·rw[List.eq_of_mem_replicate hx,Qz]
 ·have hsz:=bS aK
  have oa:∀x∈rs,x.length=k:=fun x hx=>aK x (by simp[hx])
  have hold:rows rs=(rows (rs++aL)).extract 0 (0+rs.length*k):=by
   rw[←ei]
   apply Array.ext'
   have:=bS oa
   have h2:(rows rs).toList.length=rs.length*k:=by rw[Array.length_toList];exact this
   rw[Array.toList_extract,Array.toList_append,List.extract_eq_take_drop,List.drop_zero,Nat.zero_add,Nat.sub_zero,←h2,List.take_left]
  refine⟨some ⟨b,0,none⟩,rs.length,rs.length+aL.length,some ⟨xb,0,none⟩,1,xc,rows rs,rows [r],rfl,rfl,.inr ⟨rfl,_,elem,(0,0),by simp,?_,hold⟩,hnews,by rw[bS GH];simp,bS oa,hnone,fun hfit=>?_,fun hgrow=>⟨hb,by omega,fun fY hn b' hbf=>?_⟩⟩
  ·rw[hsz];simp only[List.length_append,Nat.zero_add];exact Nat.mul_le_mul_right _ (by omega)
  ·obtain⟨j0,Mv,rfl⟩:∃j0 Mv,aL=j0::Mv:=by cases aL with|nil=>exact absurd hfit (by simp only[List.length_nil];omega)|cons a b=>exact⟨a,b,rfl⟩
   refine⟨_,elem,_,rfl,?_,((cJ.head _).append B).bI A,hk _ [(b,_)] (.inr ⟨b,Mv,?_,?_,?_⟩)⟩
   ·rw[hsz];simp[Nat.succ_mul,Nat.add_mul]
   ·simp;omega
   ·have e:(rows [r]).toList=r:=by simp[rows]
    rw[e,show(⟨b,0,none⟩:Addr).off+rs.length*k=rs.length*k by simp,zf aK (by simp) hr]
    simp
   ·intro x hx
    simp only[List.append_assoc,List.cons_append,List.nil_append,List.mem_append,List.mem_cons]at hx
    rcases hx with hx|hx|hx
    ·exact oa x hx
    ·rw[hx];exact hr
    ·exact aK x (by simp[hx])
  ·refine⟨A++([(b',_)]++B),?_,hk _ [(b',_)] (.inr ⟨b',List.replicate (fY-(rs.length+1)) z,?_,rfl,?_⟩)⟩
   ·rw[Xo,pe z Qz,ei,ei]
    exact fun g w h=>(aO.W0 [[_],A,[_],B] [[_],A,[_],B] ((List.perm_append_comm (l₁:=[_,A]) (l₂:=[_])).append_right [B]|>.trans (.cons _ (.swap _ _ _))) g w h).tail
   ·simp;omega
   ·intro x hx
    rcases List.mem_append.1 hx with hx|hx
    ·rcases List.mem_append.1 hx with hx|hx
     ·exact oa x hx
     ·exact GH x hx
    ·rw[List.eq_of_mem_replicate hx,Qz]
end
end Go.Sx
namespace Go.Sx
open Go
section
variable {P:Program} {g:Gh} {H:Hp}
theorem aS.pos{T:TypeId}{k:Nat}{v:Value}{rs:List (List Value)}{C:Hp}(h:aS T k v rs C)(hp:0<rs.length):
  ∃b aL,v=.slice (some ⟨b,0,none⟩) rs.length (rs.length+aL.length)∧C=[(b,.cells (rows (rs++aL)) T (0,0))]∧(∀r∈rs++aL,r.length=k):=by
 rcases h with⟨_,rfl,_⟩|h
 ·simp at hp
 ·exact h
theorem aS.mk{T:TypeId}{k b:Nat}{rs aL:List (List Value)}(aK:∀r∈rs++aL,r.length=k):aS T k (.slice (some ⟨b,0,none⟩) rs.length (rs.length+aL.length)) rs [(b,.cells (rows (rs++aL)) T (0,0))]:=
 .inr ⟨b,aL,rfl,rfl,aK⟩
theorem aS.mk'{T:TypeId}{k b n c:Nat}{rs aL:List (List Value)}(aK:∀r∈rs++aL,r.length=k)(hn:n=rs.length)(hc:c=rs.length+aL.length):aS T k (.slice (some ⟨b,0,none⟩) n c) rs [(b,.cells (rows (rs++aL)) T (0,0))]:=by
 subst hn;subst hc;exact aS.mk aK
theorem az.row{b i k:Nat}{l:List (List Value)}{T:TypeId}{fz:Nat×Nat}{r:List Value}{K:Value→Prop}(hm:(b,Obj.cells (rows l) T fz)∈H)(aK:∀r∈l,r.length=k)(hi:l[i]? =some r)(h:K (.agg r.toArray)):
  az k H (.pointer (some ⟨b,0+i*k,none⟩)) K:=by
 have hlt:=(List.getElem?_eq_some_iff.1 hi).1
 refine az.mk hm ?_ ?_ h
 ·rw[bS aK,Nat.zero_add];have:=Nat.mul_le_mul_right k (Nat.succ_le_of_lt hlt);rwa [Nat.succ_mul]at this
 ·rw[Nat.zero_add];exact xD aK hi
theorem Ld.row{b i j k:Nat}{l:List (List Value)}{T:TypeId}{fz:Nat×Nat}{r:List Value}{v:Value}{K:Value→Prop}(hm:(b,Obj.cells (rows l) T fz)∈H)(aK:∀r∈l,r.length=k)(hi:l[i]? =some r)(hv:r[j]? =some v)(h:K v):
  Ld H (.pointer (some ⟨b,0+i*k+j,none⟩)) K:=by
 have hr:=aK r (List.mem_of_getElem? hi)
 have hj:j<k:=by rw[←hr];exact(List.getElem?_eq_some_iff.1 hv).1
 refine Ld.mk hm ?_ h
 rw[Nat.zero_add,ia aK hj,hi];exact hv
theorem Ld.W4{b i:Nat}{l:List (List Value)}{T:TypeId}{fz:Nat×Nat}{v:Value}{K:Value→Prop}(hm:(b,Obj.cells (rows l) T fz)∈H)(aK:∀r∈l,r.length=1)(hi:l[i]? =some [v])(h:K v):
  Ld H (.pointer (some ⟨b,0+i*1,none⟩)) K:=by
 have:=Ld.row (j:=0) hm aK hi rfl h
 simpa using this
theorem St.row{b i k:Nat}{l:List (List Value)}{T:TypeId}{r:List Value}{H':Hp}{K:Hp→Prop}(hu:cJ b (.cells (rows l) T (0,0)) (.cells (rows (l.set i r)) T (0,0)) H H')(aK:∀r∈l,r.length=k)(hi:i<l.length)
 (hr:r.length=k)(h1:∀v∈r,v.oneCell'=true)(h:K H'):St k H (.pointer (some ⟨b,0+i*k,none⟩)) (.agg r.toArray) K:=by
 refine St.mk hu (by simp[Value.cells,hr]) ?_ (by simpa[Value.cells]using h1) ?_ h
 ·rw[bS aK,Nat.zero_add];have:=Nat.mul_le_mul_right k (Nat.succ_le_of_lt hi);rwa [Nat.succ_mul]at this
 ·simp only[Value.cells,Nat.zero_add];exact zf aK hi hr
theorem n6{k:Nat}{l:List (List Value)}(h:∀r∈l,r.length=k){i j:Nat}{r:List Value}(hi:l[i]? =some r)(hj:j<k)(v:Value):(rows l).setIfInBounds (i*k+j) v=rows (l.set i (r.set j v)):=by
 have hr:=h r (List.mem_of_getElem? hi)
 have hlt:=(List.getElem?_eq_some_iff.1 hi).1
 have Nq:∀x∈l.set i (r.set j v),x.length=k:=fun x hx=>by
  rcases List.mem_or_eq_of_mem_set hx with hx|hx
  ·exact h x hx
  ·rw[hx,List.length_set];exact hr
 have hk:0<k:=by omega
 apply Array.ext'
 apply List.ext_getElem?
 intro m
 rw[Array.getElem?_toList,Array.getElem?_toList,Array.getElem?_setIfInBounds]
 have hm:m%k<k:=Nat.mod_lt _ hk
 have he:m/k*k+m%k=m:=by rw[Nat.mul_comm];exact Nat.div_add_mod m k
 have g1:=ia h (i:=m/k) hm
 have g2:=ia Nq (i:=m/k) hm
 rw[he]at g1 g2
 rw[g1,g2]
 by_cases e:i*k+j=m
 ·have e1:m/k=i:=by rw[←e,Nat.mul_comm,Nat.mul_add_div hk,Nat.div_eq_of_lt hj,Nat.add_zero]
  have e2:m%k=j:=by rw[←e,Nat.mul_comm,Nat.mul_add_mod,Nat.mod_eq_of_lt hj]
  rw[if_pos e,if_pos (by rw[bS h];have:=Nat.mul_le_mul_right k (Nat.succ_le_of_lt hlt);rw[Nat.succ_mul]at this;omega),e1,e2]
  simp[hlt,hr,hj]
 ·rw[if_neg e]
  by_cases e1:m/k=i
  ·have e2:j≠m%k:=fun e2=>e (by rw[e2,←e1];exact he)
   rw[e1,hi]
   simp[hlt,e2]
  ·rw[List.getElem?_set_ne (fun x=>e1 x.symm)]
theorem St.cell{b i j k:Nat}{l:List (List Value)}{T:TypeId}{r:List Value}{v:Value}{H':Hp}{K:Hp→Prop}(hu:cJ b (.cells (rows l) T (0,0)) (.cells (rows (l.set i (r.set j v))) T (0,0)) H H')(aK:∀r∈l,r.length=k)
 (hi:l[i]? =some r)(hj:j<k)(h1:v.oneCell'=true)(h:K H'):St 1 H (.pointer (some ⟨b,0+i*k+j,none⟩)) v K:=by
 have hlt:=(List.getElem?_eq_some_iff.1 hi).1
 have hc:v.cells=#[v]:=by cases v<;>first|rfl|(simp[Value.oneCell']at h1)
 refine St.mk hu (by simp[hc]) ?_ (by simp[hc,h1]) ?_ h
 ·rw[bS aK,Nat.zero_add];have:=Nat.mul_le_mul_right k (Nat.succ_le_of_lt hlt);rw[Nat.succ_mul]at this;omega
 ·simp only[hc,Nat.zero_add,ji];exact n6 aK hi hj v
theorem St.one{b off:Nat}{c c':Array Value}{T:TypeId}{v:Value}{H':Hp}{K:Hp→Prop}(hu:cJ b (.cells c T (0,0)) (.cells c' T (0,0)) H H')(h1:v.oneCell'=true)(hs:off<c.size)(hc:c.setIfInBounds off v=c')(h:K H'):
  St 1 H (.pointer (some ⟨b,off,none⟩)) v K:=by
 have hv:v.cells=#[v]:=by cases v<;>first|rfl|(simp[Value.oneCell']at h1)
 exact St.mk hu (by simp[hv]) (by omega) (by simp[hv,h1]) (by simpa[hv,ji]using hc) h
theorem St.whole{b n:Nat}{c:Array Value}{T:TypeId}{r:List Value}{H':Hp}{K:Hp→Prop}(hu:cJ b (.cells c T (0,0)) (.cells r.toArray T (0,0)) H H')(hs:c.size=n)(hr:r.length=n)(h1:∀v∈r,v.oneCell'=true)(h:K H'):
  St n H (.pointer (some ⟨b,0,none⟩)) (.agg r.toArray) K:=by
 refine St.mk hu (by simp[Value.cells,hr]) (by omega) (by simpa[Value.cells]using h1) ?_ h
 have:=pG r c.toList 0 (by simp;omega)
 rw[Array.toArray_toList]at this
 simp only[Value.cells]
 rw[this]
 simp[List.drop_eq_nil_of_le,hr,hs]
theorem az.whole{b n:Nat}{r:List Value}{T:TypeId}{fz:Nat×Nat}{K:Value→Prop}(hm:(b,Obj.cells r.toArray T fz)∈H)(hr:r.length=n)(h:K (.agg r.toArray)):az n H (.pointer (some ⟨b,0,none⟩)) K:=
 az.mk hm (by simp[hr]) (by simp;rw[←hr,List.take_length]) h
theorem gG{α β:Type}(f:α→β):∀(l:List α) (i:Nat),(l.map f).eraseIdx i=(l.eraseIdx i).map f
 | [],_=>rfl
 |x::l,0=>rfl
 |x::l,i+1=>by simp[gG f l i]
def fL{β:Type}(kd:IntKind)(enc:β→Value)(m:List (Int×β×Nat)):Array MapEntry:=(m.map fun x=>({key:=.int kd x.1,val:=enc x.2.1,born:=x.2.2}:MapEntry)).toArray
def gE{β:Type}(m:List (Int×β×Nat))(x:Int):Option β:=(m.find? (fun y=>x==y.1)).map (·.2.1)
def jY{β:Type}(kd:IntKind)(enc:β→Value)(v:Value)(f:Int→Option β)(C:Hp):Prop:=
 (v=.map none∧C=[]∧f=fun _=>none)∨
 ∃b m ck,v=.map (some b)∧C=[(b,.map (fL kd enc m) ck)]∧(m.map Prod.fst).Nodup∧f=gE m
theorem iT{β:Type}(kd:IntKind)(enc:β→Value)(x:Int):∀(m:List (Int×β×Nat)) (i:Nat),
  ∃r,Instr.findNow (.int kd) (.int kd x) (fL kd enc m).toList i=some r∧
   (match r with
    |none=>gE m x=none∧x∉m.map Prod.fst
    |some (j,v)=>i≤j∧∃p n,m[j-i]? =some (x,p,n)∧v=enc p∧gE m x=some p)
 | [],i=>⟨none,by simp[fL,Instr.findNow],by simp[gE]⟩
 |(y,p,n)::m,i=>by
  simp only[fL,List.map_cons,Instr.findNow,Instr.sameNow,if_true]
  by_cases e:x=y
  ·subst e
   refine⟨some (i,enc p),by simp[Instr.findNow,Instr.sameNow],Nat.le_refl _,p,n,by simp,rfl,by simp[gE]⟩
  ·obtain⟨r,hr,hp⟩:=iT kd enc x m (i+1)
   have hb:(x==y)=false:=by simpa using e
   refine⟨r,?_,?_⟩
   ·simp only[fL]at hr
    simp[Instr.findNow,Instr.sameNow,hb,hr]
   ·cases r with
    |none=>
     simp only[gE,List.find?_cons,hb]at hp⊢
     exact⟨hp.1,by simpa[e]using hp.2⟩
    |some jv=>
     obtain⟨j,v⟩:=jv
     simp only[gE,List.find?_cons,hb]at hp⊢
     obtain⟨hij,p',n',h1,h2,h3⟩:=hp
     refine⟨by omega,p',n',?_,h2,h3⟩
     rw[show j-i=(j-(i+1))+1 by omega];simpa using h1
theorem jY.look{β:Type}{kd:IntKind}{enc:β→Value}{v zero:Value}{f:Int→Option β}{C:Hp}{ok:Bool}{x:Int}{K:Value→Prop}(h:jY kd enc v f C)(hC:∀y∈C,y∈H)
 (hk:K (match f x with|some p=>cond ok (.tuple #[enc p,.bool true]) (enc p)|none=>cond ok (.tuple #[zero,.bool false]) zero)):qi (.int kd) zero ok H v (.int kd x) K:=by
 rcases h with⟨rfl,rfl,rfl⟩|⟨b,m,ck,rfl,rfl,_,rfl⟩
 ·exact⟨#[],none,.inl ⟨rfl,rfl⟩,rfl,hk⟩
 ·obtain⟨r,hr,hp⟩:=iT kd enc x m 0
  refine⟨_,r,.inr ⟨b,ck,rfl,hC _ (by simp)⟩,hr,?_⟩
  cases r with
  |none=>simp only[hp.1]at hk;exact hk
  |some jv=>
   obtain⟨j,u⟩:=jv
   obtain⟨_,p,n,_,rfl,h3⟩:=hp
   simp only[h3]at hk;exact hk
def Kv{β:Type}(f:Int→Option β)(x:Int)(p:Option β):Int→Option β:=fun y=>if y=x then p else f y
theorem jY.made{β:Type}{kd:IntKind}{enc:β→Value}(b:Nat):jY kd enc (.map (some b)) (fun _=>none) [(b,.map #[] 0)]:=
 .inr ⟨b,[],0,rfl,rfl,by simp,by funext x;simp[gE]⟩
theorem BT{β:Type}(m:List (Int×β×Nat))(x:Int)(p:β)(n:Nat)(hx:x∉m.map Prod.fst):gE (m++[(x,p,n)])=Kv (gE m) x (some p):=by
 funext y
 simp only[gE,Kv,List.find?_append]
 by_cases e:y=x
 ·subst e
  have:m.find? (fun z=>y==z.1)=none:=by
   rw[List.find?_eq_none];intro z hz;simp only[beq_iff_eq];intro e;exact hx (e▸List.mem_map_of_mem hz)
  simp[this]
 ·have e':(y==x)=false:=by simpa using e
  rw[if_neg e]
  cases h:m.find? (fun z=>y==z.1)<;>simp[e']
theorem wh{β:Type}:∀(m:List (Int×β×Nat)) (j:Nat) (x:Int) (p q:β) (n:Nat),(m.map Prod.fst).Nodup→m[j]? =some (x,q,n)→gE (m.set j (x,p,n))=Kv (gE m) x (some p)
 | [],j,_,_,_,_,_,h=>by simp at h
 |y::m,0,x,p,q,n,nd,h=>by
  simp at h;subst h
  funext z
  simp only[List.set_cons_zero,gE,Kv,List.find?_cons]
  by_cases e:z=x
  ·subst e;simp
  ·have e':(z==x)=false:=by simpa using e
   rw[if_neg e];simp[e']
 |y::m,j+1,x,p,q,n,nd,h=>by
  simp at h
  simp only[List.map_cons,List.nodup_cons]at nd
  have ih:=wh m j x p q n nd.2 h
  have hne:x≠y.1:=fun e=>nd.1 (e▸List.mem_map_of_mem (f:=Prod.fst) (List.mem_of_getElem? h))
  funext z
  have Xl:=congrFun ih z
  simp only[List.set_cons_succ,gE,Kv,List.find?_cons]at Xl⊢
  by_cases e:z=y.1
  ·have:z≠x:=fun e2=>hne (e2▸e)
   simp[e,Ne.symm hne]
  ·have e':(z==y.1)=false:=by simpa using e
   simp only[e'];exact Xl
theorem rG{β:Type}:∀(m:List (Int×β×Nat)) (j:Nat) (x:Int) (q:β) (n:Nat),(m.map Prod.fst).Nodup→m[j]? =some (x,q,n)→gE (m.eraseIdx j)=Kv (gE m) x none
 | [],j,_,_,_,_,h=>by simp at h
 |y::m,0,x,q,n,nd,h=>by
  simp at h;subst h
  simp only[List.map_cons,List.nodup_cons]at nd
  funext z
  simp only[List.eraseIdx_cons_zero,gE,Kv,List.find?_cons]
  by_cases e:z=x
  ·subst e
   have:m.find? (fun w=>z==w.1)=none:=by
    rw[List.find?_eq_none];intro w hw;simp only[beq_iff_eq];intro e;exact nd.1 (e▸List.mem_map_of_mem hw)
   simp[this]
  ·have e':(z==x)=false:=by simpa using e
   rw[if_neg e];simp[e']
 |y::m,j+1,x,q,n,nd,h=>by
  simp at h
  simp only[List.map_cons,List.nodup_cons]at nd
  have ih:=rG m j x q n nd.2 h
  have hne:x≠y.1:=fun e=>nd.1 (e▸List.mem_map_of_mem (f:=Prod.fst) (List.mem_of_getElem? h))
  funext z
  have Xl:=congrFun ih z
  simp only[List.eraseIdx_cons_succ,gE,Kv,List.find?_cons]at Xl⊢
  by_cases e:z=y.1
  ·simp[e,Ne.symm hne]
  ·have e':(z==y.1)=false:=by simpa using e
   simp only[e'];exact Xl
theorem jY.cz{β:Type}{kd:IntKind}{enc:β→Value}{b:Nat}{f:Int→Option β}{C:Hp}{x:Int}{p:β}{A B:Hp}{K:Hp→Prop}(h:jY kd enc (.map (some b)) f C)
 (hk:∀C',jY kd enc (.map (some b)) (Kv f x (some p)) C'→K (A++(C'++B))):gi (.int kd) (A++(C++B)) (.map (some b)) (.int kd x) (enc p) K:=by
 rcases h with⟨h,_,_⟩|⟨b',m,ck,hb,rfl,nd,rfl⟩
 ·simp at h
 ·simp only[Value.map.injEq,Option.some.injEq]at hb;subst hb
  obtain⟨r,hr,hp⟩:=iT kd enc x m 0
  refine⟨b,fL kd enc m,ck,r,rfl,hr,?_⟩
  cases r with
  |none=>
   refine⟨_,((cJ.head _).append B).bI A,hk [(b,_)] (.inr ⟨b,m++[(x,p,ck)],ck+1,rfl,?_,?_,?_⟩)⟩
   ·simp[fL]
   ·rw[List.map_append,List.nodup_append];exact⟨nd,by simp,fun a ha c hc=>by simp at hc;subst hc;intro e;subst e;exact hp.2 ha⟩
   ·exact(BT m x p ck hp.2).symm
  |some jv=>
   obtain⟨j,u⟩:=jv
   obtain⟨_,q,n,h1,rfl,h3⟩:=hp
   rw[Nat.sub_zero]at h1
   have hlt:=(List.getElem?_eq_some_iff.1 h1).1
   refine⟨fun e he=>?_,by simpa[fL]using hlt,_,((cJ.head _).append B).bI A,hk [(b,_)] (.inr ⟨b,m.set j (x,p,n),ck,rfl,?_,?_,?_⟩)⟩
   ·have:e={key:=.int kd x,val:=enc q,born:=n}:=by
     simp only[fL,List.getElem?_toArray,List.getElem?_map,h1]at he;simpa using he.symm
    subst this
    simp[Instr.sameBits]
   ·congr 3
    apply Array.ext'
    apply List.ext_getElem?
    intro i
    simp only[fL,Array.getElem?_toList,Array.getElem?_modify,List.getElem?_toArray,List.getElem?_map,List.getElem?_set]
    by_cases e:j=i
    ·subst e
     have hj:m[j]=(x,q,n):=by have:=List.getElem?_eq_getElem hlt;rw[h1]at this;simpa using this.symm
     simp[hlt,hj]
    ·simp[e]
   ·rw[List.map_set]
    have hx:(m.map Prod.fst)[j]? =some x:=by rw[List.getElem?_map,h1];rfl
    rw[show(m.map Prod.fst).set j x=m.map Prod.fst by
     apply List.ext_getElem?;intro i;rw[List.getElem?_set];by_cases e:j=i
     ·subst e;rw[hx];simp[hlt]
     ·simp[e]]
    exact nd
   ·exact(wh m j x p q n nd h1).symm
theorem jY.del{β:Type}{kd:IntKind}{enc:β→Value}{v:Value}{f:Int→Option β}{C:Hp}{x:Int}{A B:Hp}{K:Hp→Prop}(h:jY kd enc v f C)
 (hk:∀C',jY kd enc v (Kv f x none) C'→K (A++(C'++B))):uF (.int kd) (A++(C++B)) v (.int kd x) K:=by
 rcases h with⟨rfl,rfl,rfl⟩|⟨b,m,ck,rfl,rfl,nd,rfl⟩
 ·refine .inl ⟨rfl,hk [] (.inl ⟨rfl,rfl,?_⟩)⟩
  funext y;simp[Kv]
 ·obtain⟨r,hr,hp⟩:=iT kd enc x m 0
  refine .inr ⟨b,fL kd enc m,ck,r,rfl,hr,?_⟩
  cases r with
  |none=>
   refine⟨by simp,hk [(b,_)] (.inr ⟨b,m,ck,rfl,rfl,nd,?_⟩)⟩
   funext y;simp only[Kv];split
   ·rename_i e;subst e;exact hp.1.symm
   ·rfl
  |some jv=>
   obtain⟨j,u⟩:=jv
   obtain⟨_,q,n,h1,rfl,h3⟩:=hp
   rw[Nat.sub_zero]at h1
   have hlt:=(List.getElem?_eq_some_iff.1 h1).1
   refine⟨_,((cJ.head _).append B).bI A,hk [(b,_)] (.inr ⟨b,m.eraseIdx j,ck,rfl,?_,?_,?_⟩)⟩
   ·congr 3
    apply Array.ext'
    simp[fL,Array.eraseIdxIfInBounds,hlt,gG]
   ·rw[←gG];exact nd.sublist (List.eraseIdx_sublist _ _)
   ·exact(rG m j x q n nd h1).symm
end
end Go.Sx
namespace Go.Sx
open Go
section
variable {P:Program} {g:Gh} {H:Hp}
theorem tZ(off:Nat):∀(r:List Value) (i:Nat) (c:Array Value),(r.zipIdx i).foldl (fun cs (x:Value×Nat)=>cs.setIfInBounds (off+x.2) x.1) c=ji c (off+i) r
 | [],i,c=>rfl
 |v::r,i,c=>by
  rw[List.zipIdx_cons,List.foldl_cons,tZ off r (i+1)]
  rfl
theorem IS(off:Nat)(a c:Array Value):a.zipIdx.foldl (fun cs (x:Value×Nat)=>cs.setIfInBounds (off+x.2) x.1) c=ji c off a.toList:=by
 rw[←Array.foldl_toList]
 have:a.zipIdx.toList=a.toList.zipIdx 0:=by simp
 rw[this,tZ off a.toList 0 c];rfl
def zm:List Value→Nat→List Value→List Value
 |c,_,[]=>c
 |c,off,v::r=>zm (c.set off v) (off+1) r
theorem oL:∀(r c:List Value) (off:Nat),ji c.toArray off r=(zm c off r).toArray
 | [],c,off=>rfl
 |v::r,c,off=>by
  have:c.toArray.setIfInBounds off v=(c.set off v).toArray:=by simp
  rw[ji,zm,this,oL r]
def ua(place:Nat→Option (Nat×Nat)):List Value→List (Nat×Value)→Option (List Value)
 |c,[]=>some c
 |c,(i,v)::r=>
  match place i with
  |none=>none
  |some (off,size)=>cond (Nat.beq v.cells.toList.length size&&Nat.ble (off+v.cells.toList.length) c.length) (ua place (zm c off v.cells.toList) r) none
theorem lD{place:Nat→Option (Nat×Nat)}:∀(r:List (Nat×Value)) (c cs:List Value),ua place c r=some cs→Instr.fill place c.toArray r=some cs.toArray
 | [],c,cs,h=>by simp only[ua,Option.some.injEq]at h;subst h;rfl
 |(i,v)::r,c,cs,h=>by
  simp only[ua]at h
  simp only[Instr.fill]
  split at h
  ·simp at h
  ·rename_i off size hp
   cases hc:(Nat.beq v.cells.toList.length size&&Nat.ble (off+v.cells.toList.length) c.length)<;>simp only[hc,cond_true,cond_false,reduceCtorEq]at h
   simp only[Bool.and_eq_true]at hc
   have h1:=Nat.eq_of_beq_eq_true hc.1
   have h2:=Nat.le_of_ble_eq_true hc.2
   have h3:v.cells.toList.length=v.cells.size:=Array.length_toList
   have hsz:v.cells.size=size:=by rw[←h3];exact h1
   have hle:off+v.cells.size≤c.length:=by rw[←h3];exact h2
   simp only[hp]
   have Yb:(decide (v.cells.size≠size)||decide (off+v.cells.size>c.toArray.size))=false:=by
    rw[Bool.or_eq_false_iff];exact⟨by simp[hsz],by simp only[List.size_toArray,decide_eq_false_iff_not];omega⟩
   rw[Yb]
   simp only[Bool.false_eq_true,if_false]
   rw[IS,oL]
   exact lD r _ cs h
def pF(P:Program):List Field→Option (List (Nat×Nat))
 | []=>some []
 |f::r=>match dO P f.type,pF P r with
  |some n,some l=>some ((f.offset,n)::l)
  |_,_=>none
def Of(P:Program)(t:TypeId)(parts:List (Nat×Value)):Option (List Value):=
 match P.underlying t,fu P t with
 |some (.struct fs),some z=>match pF P fs.toList with
  |some pl=>ua (fun i=>pl[i]?) z.cells.toList parts
  |none=>none
 |_,_=>none
theorem rD:∀(fs:List Field) (pl:List (Nat×Nat)),pF P fs=some pl→∀w,(fs.mapM fun f=>(do pure (f.offset,←sizeOf f.type):Sem (Nat×Nat))).run P w=.ok pl w
 | [],pl,h,w=>by simp only[pF,Option.some.injEq]at h;subst h;rfl
 |f::r,pl,h,w=>by
  simp only[pF]at h
  split at h
  ·rename_i n l hn hl
   simp only[Option.some.injEq]at h;subst h
   obtain⟨i,hi,hin⟩:=bU hn
   have ih:=rD r l hl w
   simp only[List.mapM_cons,Sem.run_bind,run_sizeOf hi,Result.andThen_ok,Sem.run_pure,hin,ih]
  ·simp at h
theorem Build.mk{t:TypeId}{parts:List (Nat×Value)}{cs:List Value}{k:Value→Prop}(hb:Of P t parts=some cs)(h:k (.agg cs.toArray)):Build P t parts k:=by
 refine⟨_,fun w=>?_,h⟩
 unfold Of at hb
 split at hb
 ·rename_i fs z hu hz
  split at hb
  ·rename_i pl qJ
   obtain⟨i,hi,vx⟩:=de hz
   have hf:=lD _ _ _ hb
   have hp:=rD fs.toList pl qJ w
   simp only[Instr.build,Sem.run_bind,eZ hi vx,Result.andThen_ok,run_underlying hu]
   have e2:((fs.mapM fun f=>(do pure (f.offset,←sizeOf f.type):Sem (Nat×Nat))).run P w)=.ok pl.toArray w:=by
    rw[Array.mapM_eq_mapM_toList]
    simp only[Sem.run_map,hp,Result.andThen_ok]
   rw[e2]
   show Sem.run P _ w=_
   have e3:Instr.fill (fun x=>pl.toArray[x]?) z.cells parts=some cs.toArray:=by
    simpa using hf
   simp only[e3]
   rfl
  ·simp at hb
 ·simp at hb
theorem av.one{t e k:Nat}{z:Value}{r:List Value}{K:Value→Hp→Prop}(h1:P.underlying t=some (.slice e))(h2:dO P e=some k)(h3:fu P e=some z)(hk:0<k∧k≤16777216)(hr:r.length=k)
 (h:∀b,K (.slice (some ⟨b,0,none⟩) 1 1) ((b,.cells r.toArray e (0,0))::H)):av P t 1 [(0,.agg r.toArray)] H K:=by
 refine⟨r.toArray,e,k,z,h1,h2,h3,by omega,?_,fun b _=>h b⟩
 have:((Array.range (1*k)).map (z.cells[· %z.cells.size]!))=(((Array.range (1*k)).map (z.cells[· %z.cells.size]!)).toList).toArray:=by rw[Array.toArray_toList]
 rw[this]
 generalize hc:((Array.range (1*k)).map (z.cells[· %z.cells.size]!)).toList=c
 have hlen:c.length=k:=by rw[←hc];simp
 refine lD _ _ _ ?_
 simp only[ua,Value.cells]
 have hb:(Nat.beq r.toArray.toList.length k&&Nat.ble (0*k+r.toArray.toList.length) c.length)=true:=by simp[hr,hlen]
 rw[hb]
 simp only[cond_true,Option.some.injEq]
 have:=pG r c 0 (by omega)
 rw[oL]at this
 have h5:zm c 0 r=List.take 0 c++r++List.drop (0+r.length) c:=by simpa using congrArg Array.toList this
 simp only[Nat.zero_mul]
 rw[h5]
 simp[List.drop_eq_nil_of_le,hr,hlen]
end
end Go.Sx
namespace Go.Sx
open Go
section
variable {P:Program} {g:Gh} {H:Hp}
theorem jY.Ip{β:Type}{kd:IntKind}{enc:β→Value}{v zero:Value}{f:Int→Option β}{C:Hp}{ok:Bool}{x:Int}{K:Value→Prop}{p:β}(h:jY kd enc v f C)(hC:∀y∈C,y∈H)(hf:f x=some p)
 (hk:K (cond ok (.tuple #[enc p,.bool true]) (enc p))):qi (.int kd) zero ok H v (.int kd x) K:=h.look hC (by rw[hf];exact hk)
theorem jY.Iq{β:Type}{kd:IntKind}{enc:β→Value}{v zero:Value}{f:Int→Option β}{C:Hp}{ok:Bool}{x:Int}{K:Value→Prop}(h:jY kd enc v f C)(hC:∀y∈C,y∈H)(hf:f x=none)
 (hk:K (cond ok (.tuple #[zero,.bool false]) zero)):qi (.int kd) zero ok H v (.int kd x) K:=h.look hC (by rw[hf];exact hk)
theorem gh.upto{size n c h:Nat}{a:Option Addr}{kd:IntKind}{k:Value→Prop}(hh:h≤c)(hk:k (.slice a h c)):gh size (.slice a n c) none (some (.int kd (h:Int))) k:=by
 refine⟨a,n,c,0,h,rfl,rfl,rfl,by omega,by omega,by omega,?_⟩
 have:(if c=(0:Int).toNat then a else a.map (·.add ((0:Int).toNat*size)))=a:=by
  split
  ·rfl
  ·simp only[Int.toNat_zero,Nat.zero_mul]
   cases a with
   |none=>rfl
   |some x=>simp[Addr.add_zero']
 rw[this]
 simpa using hk
end
end Go.Sx
namespace Go.Sx
open Go
section
variable {P:Program} {g:Gh} {H:Hp}
inductive cy(C:Hp):Hp→(Hp→Hp)→Prop
 |here:cy C C (fun X=>X)
 |left {A:Hp}:cy C (C++A) (fun X=>X++A)
 |cons {x:Nat×Obj} {H:Hp} {c:Hp→Hp} (h:cy C H c):cy C (x::H) (fun X=>x::c X)
 |app {A H:Hp} {c:Hp→Hp} (h:cy C H c):cy C (A++H) (fun X=>A++c X)
theorem cy.spec{C H:Hp}{c:Hp→Hp}(h:cy C H c):H=c C∧∃F,∀X,(c X).Perm (X++F):=by
 induction h with
 |here=>exact⟨rfl,[],fun X=>by simp⟩
 | @left A=>exact⟨rfl,A,fun X=>.refl _⟩
 | @cons x H c h ih=>
  obtain⟨h1,F,h2⟩:=ih
  exact⟨by rw[h1],x::F,fun X=>(List.Perm.cons x (h2 X)).trans List.perm_middle.symm⟩
 | @app A H c h ih=>
  obtain⟨h1,F,h2⟩:=ih
  refine⟨by rw[h1],A++F,fun X=>(List.Perm.append_left A (h2 X)).trans ?_⟩
  rw[←List.append_assoc,←List.append_assoc];exact List.perm_append_comm.append_right F
theorem cy.rR{C H:Hp}{c:Hp→Hp}(h:cy C H c){X Y:Hp}(e:aO X Y):aO (c X) (c Y):=by
 obtain⟨_,F,hp⟩:=h.spec
 exact(aO.perm (hp X)).trans ((e.frame F).trans (.perm (hp Y).symm))
theorem aO.cons{x:Nat×Obj}{A B:Hp}(h:aO A B):aO (x::A) (x::B):=aO.cL h [x]
theorem aO.skip{x:Nat×Obj}{A B:Hp}(h:aO A B):aO (x::A) B:=aO.tail.trans h
theorem aO.bN{X A B:Hp}(h:aO A B):aO (X++A) B:=aO.right.trans h
theorem aO.assoc{A B C:Hp}:aO ((A++B)++C) (A++(B++C)):=fun _ _ h=>by rw[←List.append_assoc];exact h
theorem ai.frame{f:FuncId}{args:Array Value}{C F:Hp}{R:Ending→Hp→Prop}(h:∀g,ai P g f args C R):ai P g f args (C++F) (fun e H'=>∃C',H'=C'++F∧R e C'):=by
 intro w hw
 exact((h (g.add F)) w (Own.gF.1 hw)).mono fun e w' ⟨H',ho,hr⟩=>⟨_,Own.gF.2 ho,H',rfl,hr⟩
theorem ai.hole{f:FuncId}{args:Array Value}{C H:Hp}{c:Hp→Hp}{R:Ending→Hp→Prop}(hh:cy C H c)(h:∀g,ai P g f args C R):ai P g f args H (fun e H'=>∃C',H'=c C'∧R e C'):=by
 obtain⟨rfl,F,hp⟩:=hh.spec
 exact((ai.frame (F:=F) h).pre (.perm (hp C))).post fun e H' ⟨C',h1,h2⟩=>⟨c C',by rw[h1];exact .perm (hp C').symm,C',rfl,h2⟩
def Fc(P:Program)(f:FuncId)(args:Array Value)(C:Hp)(Q:Value→Hp→Prop):Prop:=
 ∀g,ai P g f args C (fun e H'=>∃v lT,e=.returned v∧aO H' lT∧Q v lT)
def aF(Q:Value→Hp→Prop):Ending→Hp→Prop:=fun e H'=>∃v lT,e=.returned v∧aO H' lT∧Q v lT
theorem aF.mk{Q:Value→Hp→Prop}{v:Value}{H lT:Hp}(he:aO H lT)(h:Q v lT):aF Q (.returned v) H:=⟨v,lT,rfl,he,h⟩
theorem aF.here{Q:Value→Hp→Prop}{v:Value}{H:Hp}(h:Q v H):aF Q (.returned v) H:=⟨v,H,rfl,.refl _,h⟩
theorem Fc.mono{f:FuncId}{args:Array Value}{C:Hp}{Q Q':Value→Hp→Prop}(h:Fc P f args C Q)(hq:∀v H,Q v H→Q' v H):Fc P f args C Q':=
 fun g=>(h g).mono fun e H' ⟨v,lT,h1,h2,h3⟩=>⟨v,lT,h1,h2,hq _ _ h3⟩
def Rd(P:Program)(f:FuncId)(args:Array Value)(B:Hp)(Q:Value→Prop):Prop:=Fc P f args B (fun v H=>H=B∧Q v)
theorem ag.fn{f:FuncId}{args:Array Value}{C H:Hp}{c:Hp→Hp}{Q:Value→Hp→Prop}{K:Value→Hp→Prop}{KP:List PanicEntry→Hp→Prop}(hh:cy C H c)(hc:Fc P f args C Q)
 (hk:∀v C',Q v C'→K v (c C')):ag P g f args H K KP:=
 (ai.hole hh hc).post fun e H' ⟨C',h1,v,C'',h2,h3,h4⟩=>⟨c C'',by rw[h1];exact hh.rR h3,by subst h2;exact hk _ _ h4⟩
theorem ag.rd{f:FuncId}{args:Array Value}{B H:Hp}{c:Hp→Hp}{Q:Value→Prop}{K:Value→Hp→Prop}{KP:List PanicEntry→Hp→Prop}(hh:cy B H c)(hc:Rd P f args B Q)
 (hk:∀v,Q v→K v H):ag P g f args H K KP:=
 ag.fn hh hc fun v C' ⟨h1,h2⟩=>by subst h1;rw[←hh.spec.1];exact hk v h2
theorem fx.of{fv:Value}{args:Array Value}{K:Value→Hp→Prop}{KP:List PanicEntry→Hp→Prop}{f:FuncId}{first captured:Array Value}(hf:fv=.func (.func f) first captured)(hc:cR P f=true)
 (h:ag P g f (first++args++captured) H K KP):fx P g fv args H K KP:=⟨f,first,captured,hf,hc,h⟩
theorem DR.self{body:Hp→Prop}(h:body H):DR H body:=⟨H,.refl _,h⟩
theorem DR.of{R:Hp}{body:Hp→Prop}(e:aO H R)(h:body R):DR H body:=⟨R,e,h⟩
def At(B:Hp)(p:Value)(r:List Value):Prop:=∃b o c T fz,p=.pointer (some ⟨b,o,none⟩)∧(b,Obj.cells c T fz)∈B∧∀j v,r[j]? =some v→c[o+j]? =some v
theorem At.block{b:Nat}{l:List Value}{T:TypeId}{fz:Nat×Nat}{B:Hp}(h:(b,Obj.cells l.toArray T fz)∈B):At B (.pointer (some ⟨b,0,none⟩)) l:=
 ⟨b,0,_,T,fz,rfl,h,fun j v hj=>by simpa using hj⟩
theorem Ld.at{p v:Value}{r:List Value}{B:Hp}{k:Value→Prop}(h:At B p (v::r))(hs:∀x∈B,x∈H)(hk:k v):Ld H p k:=by
 obtain⟨b,o,c,T,fz,h1,h2,h3⟩:=h
 exact⟨b,o,c,T,fz,v,h1,hs _ h2,by simpa using h3 0 v rfl,hk⟩
theorem aa.at{p:Value}{r:List Value}{B:Hp}{j:Nat}{k:Value→Prop}(h:At B p r)(hk:∀q,At B q (r.drop j)→k q):aa j p k:=by
 obtain⟨b,o,c,T,fz,h1,h2,h3⟩:=h
 refine⟨b,o,h1,hk _ ⟨b,o+j,c,T,fz,rfl,h2,fun i v hi=>?_⟩⟩
 rw[List.getElem?_drop]at hi
 rw[Nat.add_assoc];exact h3 _ _ hi
theorem az.at{p:Value}{r:List Value}{B:Hp}{n:Nat}{k:Value→Prop}(h:At B p r)(hn:r.length=n)(hp:0<n)(hs:∀x∈B,x∈H)(hk:k (.agg r.toArray)):az n H p k:=by
 obtain⟨b,o,c,T,fz,h1,h2,h3⟩:=h
 have hsz:o+n≤c.size:=by
  have:=h3 (n-1) (r[n-1]'(by omega)) (List.getElem?_eq_getElem _)
  have:=(Array.getElem?_eq_some_iff.1 this).1
  omega
 refine⟨b,o,c,T,fz,h1,hs _ h2,hsz,?_⟩
 have:c.extract o (o+n)=r.toArray:=by
  apply Array.ext
  ·simp;omega
  ·intro i V8 Cn
   simp only[List.size_toArray]at Cn
   have:=h3 i r[i] (List.getElem?_eq_getElem _)
   rw[Array.getElem_extract]
   have:=(Array.getElem?_eq_some_iff.1 this).2
   simpa using this
 rw[this];exact hk
def Sl(k:Nat)(B:Hp)(v:Value)(rs:List (List Value)):Prop:=
 (∀r∈rs,r.length=k)∧
 ((∃a cap,v=.slice a 0 cap∧rs=[])∨∃b o cap c T fz,v=.slice (some ⟨b,o,none⟩) rs.length cap∧rs.length≤cap∧(b,Obj.cells c T fz)∈B∧o+rs.length*k≤c.size∧∀i r,rs[i]? =some r→∀j v,r[j]? =some v→c[o+i*k+j]? =some v)
theorem Sl.mono{k:Nat}{B B':Hp}{v:Value}{rs:List (List Value)}(h:Sl k B v rs)(hs:∀x∈B,x∈B'):Sl k B' v rs:=by
 obtain⟨h0,h⟩:=h
 refine⟨h0,?_⟩
 rcases h with h|⟨b,o,cap,c,T,fz,h1,h2,h3,h4⟩
 ·exact .inl h
 ·exact .inr ⟨b,o,cap,c,T,fz,h1,h2,hs _ h3,h4⟩
theorem Sl.nil(k:Nat)(B:Hp):Sl k B (.slice none 0 0) []:=⟨by simp,.inl ⟨_,_,rfl,rfl⟩⟩
theorem Sl.shape{k:Nat}{B:Hp}{v:Value}{rs:List (List Value)}(h:Sl k B v rs):∃a cap,v=.slice a rs.length cap∧rs.length≤cap:=by
 rcases h.2 with⟨a,cap,rfl,rfl⟩|⟨b,o,cap,c,T,fz,h1,h2,_⟩
 ·exact⟨_,_,rfl,Nat.zero_le _⟩
 ·exact⟨_,_,h1,h2⟩
theorem Sl.aR{k:Nat}{B:Hp}{v:Value}{rs:List (List Value)}(h:Sl k B v rs){K:Value→Prop}(hk:K (.int .i64 rs.length)):aG v K:=by
 obtain⟨a,c,rfl,_⟩:=h.shape;exact aG.mk hk
theorem ah.sl{k:Nat}{B:Hp}{v:Value}{rs:List (List Value)}{kd:IntKind}{i:Nat}{r:List Value}{K:Value→Prop}(h:Sl k B v rs)(hi:rs[i]? =some r)(hk:∀p,At B p r→K p):ah k v (.int kd (i:Int)) K:=by
 have hlt:=(List.getElem?_eq_some_iff.1 hi).1
 rcases h.2 with⟨a,cap,rfl,rfl⟩|⟨b,o,cap,c,T,fz,h1,h2,h3,h4,h5⟩
 ·simp at hlt
 ·subst h1
  refine ah.nat (by omega) (hk _ ⟨b,_,c,T,fz,rfl,h3,fun j v hj=>h5 i r hi j v hj⟩)
theorem Sl.cells{k:Nat}{B:Hp}{v:Value}{rs:List (List Value)}(h:Sl k B v rs):∃a cap,v=.slice a rs.length cap∧Cells B a (rs.length*k) (rows rs):=by
 rcases h.2 with⟨a,cap,rfl,rfl⟩|⟨b,o,cap,c,T,fz,h1,h2,h3,h4,h5⟩
 ·refine⟨a,cap,rfl,?_⟩
  cases a with
  |none=>simp[Cells,rows]
  |some a=>exact .inl ⟨by simp,rfl⟩
 ·refine⟨_,cap,h1,.inr ⟨rfl,c,T,fz,h3,h4,?_⟩⟩
  apply Array.ext
  ·rw[bS h.1];simp;omega
  ·intro i V8 Cn
   rw[bS h.1]at V8
   have hk:0<k:=Nat.pos_of_ne_zero fun e=>by simp[e]at V8
   have hd:i/k<rs.length:=Nat.div_lt_of_lt_mul (by rw[Nat.mul_comm];exact V8)
   have hm:i%k<k:=Nat.mod_lt _ hk
   have he:i/k*k+i%k=i:=by rw[Nat.mul_comm];exact Nat.div_add_mod i k
   have hr:=h.1 rs[i/k] (List.getElem_mem hd)
   have g1:=ia h.1 (i:=i/k) hm
   rw[he,List.getElem?_eq_getElem hd,Option.bind_some,List.getElem?_eq_getElem (by omega)]at g1
   have g2:=h5 (i/k) _ (List.getElem?_eq_getElem hd) (i%k) _ (List.getElem?_eq_getElem (by omega))
   rw[Nat.add_assoc,he]at g2
   have e1:=(Array.getElem?_eq_some_iff.1 g1).2
   have e2:=(Array.getElem?_eq_some_iff.1 g2).2
   rw[Array.getElem_extract]
   exact e1.trans e2.symm
theorem Sl.rE{T:TypeId}{k:Nat}{v:Value}{rs:List (List Value)}{C:Hp}(h:aS T k v rs C)(hk:0<k):Sl k C v rs:=by
 rcases h with⟨rfl,rfl,rfl⟩|⟨b,aL,rfl,rfl,aK⟩
 ·exact Sl.nil _ _
 ·refine⟨fun r hr=>aK r (by simp[hr]),.inr ⟨b,0,_,rows (rs++aL),T,(0,0),rfl,by omega,by simp,?_,fun i r hi j v hj=>?_⟩⟩
  ·rw[bS aK,List.length_append,Nat.zero_add];exact Nat.mul_le_mul_right _ (by omega)
  ·have hlt:=(List.getElem?_eq_some_iff.1 hi).1
   have hr:=aK r (List.mem_append_left _ (List.mem_of_getElem? hi))
   have SF:j<k:=by rw[←hr];exact(List.getElem?_eq_some_iff.1 hj).1
   rw[Nat.zero_add,ia aK SF,List.getElem?_append_left hlt,hi];exact hj
end
end Go.Sx
namespace Go.Sx
open Go
def aB:IntKind→Nat
 | .i8=>128| .i16=>32768| .i32=>2147483648| .i64=>9223372036854775808
 | .u8=>256| .u16=>65536| .u32=>4294967296| .u64=>18446744073709551616
theorem fG{kd:IntKind}{n:Nat}(h:n<aB kd):kd.wrap (n:Int)=n:=by
 cases kd<;>simp only[aB]at h<;>simp only[IntKind.wrap,IntKind.bits,IntKind.signed,Bool.false_and,Bool.true_and,Bool.false_eq_true,if_false,decide_eq_true_eq]
 all_goals first
  |omega
  |(rw[if_neg (by simp;omega)];omega)
theorem wrap_u64(n:Int):IntKind.u64.wrap n=n%18446744073709551616:=by simp[IntKind.wrap,IntKind.bits,IntKind.signed]
theorem Mm(kd:IntKind):aB kd≤2^kd.bits:=by cases kd<;>decide
def lH(a b:Nat):Nat:=a^^^(a&&&b)
theorem cZ(a b j:Nat):(lH a b).testBit j=(a.testBit j&& !b.testBit j):=by
 unfold lH;rw[Nat.testBit_xor,Nat.testBit_and];cases a.testBit j<;>cases b.testBit j<;>rfl
theorem jS(a b:Nat):lH a b≤a:=by
 have:lH a b=a&&&lH a b:=by
  apply Nat.eq_of_testBit_eq;intro j
  rw[Nat.testBit_and,cZ];cases a.testBit j<;>simp
 rw[this];exact Nat.and_le_left
theorem bits_nat{kd:IntKind}{a b:Nat}(ha:a<aB kd)(hb:b<aB kd):
  bits .and kd a b=((a&&&b:Nat):Int)∧bits .or kd a b=((a|||b:Nat):Int)∧bits .xor kd a b=((a^^^b:Nat):Int)∧bits .andNot kd a b=((lH a b:Nat):Int):=by
 have hl:=Mm kd
 have h1:(BitVec.ofInt kd.bits (a:Int)).toNat=a:=by rw[BitVec.ofInt_natCast,BitVec.toNat_ofNat,Nat.mod_eq_of_lt (by omega)]
 have h2:(BitVec.ofInt kd.bits (b:Int)).toNat=b:=by rw[BitVec.ofInt_natCast,BitVec.toNat_ofNat,Nat.mod_eq_of_lt (by omega)]
 obtain⟨n,hn⟩:∃n,aB kd=2^n:=by cases kd<;>first|exact⟨7,rfl⟩|exact⟨15,rfl⟩|exact⟨31,rfl⟩|exact⟨63,rfl⟩|exact⟨8,rfl⟩|exact⟨16,rfl⟩|exact⟨32,rfl⟩|exact⟨64,rfl⟩
 rw[hn]at ha hb
 refine⟨?_,?_,?_,?_⟩
 ·simp only[bits,BitVec.toNat_and,h1,h2]
  exact fG (by rw[hn];exact Nat.lt_of_le_of_lt Nat.and_le_left ha)
 ·simp only[bits,BitVec.toNat_or,h1,h2]
  exact fG (by rw[hn];exact Nat.or_lt_two_pow ha hb)
 ·simp only[bits,BitVec.toNat_xor,h1,h2]
  exact fG (by rw[hn];exact Nat.xor_lt_two_pow ha hb)
 ·simp only[bits]
  have:(BitVec.ofInt kd.bits (a:Int) &&& ~~~BitVec.ofInt kd.bits (b:Int)).toNat=lH a b:=by
   apply Nat.eq_of_testBit_eq;intro j
   rw[cZ,←BitVec.getLsbD,BitVec.getLsbD_and,BitVec.getLsbD_not,BitVec.getLsbD,BitVec.getLsbD,h1,h2]
   by_cases hj:j<kd.bits
   ·simp[hj]
   ·have:a.testBit j=false:=Nat.testBit_lt_two_pow (Nat.lt_of_lt_of_le ha (by rw[←hn];exact Nat.le_trans hl (Nat.pow_le_pow_right (by decide) (by omega))))
    simp[this]
  rw[this]
  exact fG (by rw[hn];exact Nat.lt_of_le_of_lt (jS a b) ha)
section
variable {kd xP:IntKind} {a b:Nat} {k:Value→Prop}
theorem ae.jr(ha:a<aB kd)(hb:b<aB kd)(h:k (.int kd ((a&&&b:Nat):Int))):ae .num .and (.int kd a) (.int kd b) k:=⟨_,by simp[gA,kD,(bits_nat ha hb).1],h⟩
theorem ae.Gr(ha:a<aB kd)(hb:b<aB kd)(h:k (.int kd ((a|||b:Nat):Int))):ae .num .or (.int kd a) (.int kd b) k:=⟨_,by simp[gA,kD,(bits_nat ha hb).2.1],h⟩
theorem ae.To(ha:a<aB kd)(hb:b<aB kd)(h:k (.int kd ((a^^^b:Nat):Int))):ae .num .xor (.int kd a) (.int kd b) k:=⟨_,by simp[gA,kD,(bits_nat ha hb).2.2.1],h⟩
theorem ae.AJ(ha:a<aB kd)(hb:b<aB kd)(h:k (.int kd ((lH a b:Nat):Int))):ae .num .andNot (.int kd a) (.int kd b) k:=⟨_,by simp[gA,kD,(bits_nat ha hb).2.2.2],h⟩
theorem ae.jU(ha:a<aB kd)(h:k (.int kd ((a>>>b:Nat):Int))):ae .num .shr (.int kd a) (.int xP b) k:=by
 refine⟨_,?_,h⟩
 have h0:¬((b:Int)<0):=by omega
 simp only[gA,h0,if_false,Option.some.injEq,Value.int.injEq,true_and,Int.toNat_natCast]
 rw[Int.fdiv_eq_ediv_of_nonneg _ (Int.le_of_lt (Int.pow_pos (by decide))),Nat.shiftRight_eq_div_pow]
 have hl:=Mm kd
 by_cases hb:b≤kd.bits
 ·rw[Nat.min_eq_left hb];push_cast;rfl
 ·rw[Nat.min_eq_right (by omega)]
  have h1:a/2^kd.bits=0:=Nat.div_eq_of_lt (by omega)
  have h2:a/2^b=0:=Nat.div_eq_of_lt (Nat.lt_of_lt_of_le (by omega) (Nat.pow_le_pow_right (by decide) (by omega:kd.bits≤b)))
  have:(a:Int) / (2^kd.bits:Int)=((a/2^kd.bits:Nat):Int):=by push_cast;rfl
  rw[this,h1,h2]
theorem ae.r3(hb:b≤kd.bits)(hr:a<<<b<aB kd)(h:k (.int kd ((a<<<b:Nat):Int))):ae .num .shl (.int kd a) (.int xP b) k:=by
 refine⟨_,?_,h⟩
 have h0:¬((b:Int)<0):=by omega
 simp only[gA,h0,if_false,Option.some.injEq,Value.int.injEq,true_and,Int.toNat_natCast,Nat.min_eq_left hb]
 rw[←fG hr,Nat.shiftLeft_eq];push_cast;rfl
theorem ae.pB(h:k (.int .u64 (((a<<<b)%18446744073709551616:Nat):Int))):ae .num .shl (.int .u64 a) (.int xP b) k:=by
 refine⟨_,?_,h⟩
 have h0:¬((b:Int)<0):=by omega
 simp only[gA,h0,if_false,Option.some.injEq,Value.int.injEq,true_and,Int.toNat_natCast,IntKind.bits,wrap_u64]
 rw[Nat.shiftLeft_eq]
 by_cases hb:b≤64
 ·rw[Nat.min_eq_left hb,Int.natCast_emod,Int.natCast_mul,Int.natCast_pow];rfl
 ·rw[Nat.min_eq_right (by omega)]
  have h1:(a*2^b)%18446744073709551616=0:=by
   have:2^b=18446744073709551616*2^(b-64):=by rw[show(18446744073709551616:Nat)=2^64 by rfl,←Nat.pow_add];congr 1;omega
   rw[this,Nat.mul_left_comm];exact Nat.mul_mod_right _ _
  rw[h1]
  exact Int.mul_emod_left _ _
theorem ae.aH(hr:a+b<aB kd)(h:k (.int kd ((a+b:Nat):Int))):ae .num .add (.int kd a) (.int kd b) k:=by
 refine ae.add ?_
 have:((a:Int)+(b:Int))=((a+b:Nat):Int):=by push_cast;rfl
 rw[this,fG hr];exact h
theorem ae.bH(ha:a<aB kd)(hb:b≤a)(h:k (.int kd ((a-b:Nat):Int))):ae .num .sub (.int kd a) (.int kd b) k:=by
 refine ae.sub ?_
 have:((a:Int) -(b:Int))=((a-b:Nat):Int):=by omega
 rw[this,fG (by omega)];exact h
theorem ae.lg(hr:a*b<aB kd)(h:k (.int kd ((a*b:Nat):Int))):ae .num .mul (.int kd a) (.int kd b) k:=by
 refine ae.mul ?_
 have:((a:Int)*(b:Int))=((a*b:Nat):Int):=by push_cast;rfl
 rw[this,fG hr];exact h
theorem ae.vy(ha:a<aB kd)(hb:b≠0)(h:k (.int kd ((a/b:Nat):Int))):ae .num .quo (.int kd a) (.int kd b) k:=by
 refine⟨_,?_,h⟩
 have h0:¬((b:Int)=0):=by omega
 simp only[gA,kD,if_true,h0,if_false]
 have:(a:Int).tdiv b=((a/b:Nat):Int):=by rw[Int.tdiv_eq_ediv_of_nonneg (by omega)];push_cast;rfl
 rw[this,fG (Nat.lt_of_le_of_lt (Nat.div_le_self _ _) ha)]
theorem ae.Ij(hb:b≠0)(h:k (.int kd ((a%b:Nat):Int))):ae .num .rem (.int kd a) (.int kd b) k:=by
 refine⟨_,?_,h⟩
 have h0:¬((b:Int)=0):=by omega
 simp only[gA,kD,if_true,h0,if_false]
 have:(a:Int).tmod b=((a%b:Nat):Int):=by rw[Int.tmod_eq_emod_of_nonneg (by omega)];push_cast;rfl
 rw[this]
theorem ae.jG{x y:Int}(h:k (.bool (decide (x=y)))):ae .num .eql (.int kd x) (.int kd y) k:=ae.eql (by rw[show(x==y)=decide (x=y)from by cases hb:decide (x=y)<;>simp_all];exact h)
theorem ae.dX{x y:Int}(h:k (.bool (decide (x≠y)))):ae .num .neq (.int kd x) (.int kd y) k:=ae.neq (by rw[show(x !=y)=decide (x≠y)from by cases hb:decide (x=y)<;>simp_all];exact h)
theorem ae.gz(h:k (.bool (decide (a=b)))):ae .num .eql (.int kd a) (.int kd b) k:=ae.jG (by simpa[Int.natCast_inj]using h)
theorem ae.pH(h:k (.bool (decide (a≠b)))):ae .num .neq (.int kd a) (.int kd b) k:=ae.dX (by simpa[Int.natCast_inj]using h)
theorem ae.dz(h:k (.bool (decide (a<b)))):ae .num .lss (.int kd a) (.int kd b) k:=ae.lss (by simpa[Int.ofNat_lt]using h)
theorem ae.zI(h:k (.bool (decide (a≤b)))):ae .num .leq (.int kd a) (.int kd b) k:=ae.leq (by simpa[Int.ofNat_le]using h)
theorem ae.me(h:k (.bool (decide (b<a)))):ae .num .gtr (.int kd a) (.int kd b) k:=ae.gtr (by simpa[Int.ofNat_lt]using h)
theorem ae.qP(h:k (.bool (decide (b≤a)))):ae .num .geq (.int kd a) (.int kd b) k:=ae.geq (by simpa[Int.ofNat_le]using h)
theorem bL.nat(ha:a<aB kd)(h:k (.int kd (a:Int))):bL kd (.int xP a) k:=bL.of (fG ha) h
theorem bL.aee(h:k (.int .u8 ((a%256:Nat):Int))):bL .u8 (.int xP a) k:=bL.of (by simp[IntKind.wrap,IntKind.bits,IntKind.signed]) h
theorem Un.ab3(ha:a<18446744073709551616)(h:k (.int .u64 (((18446744073709551616-a)%18446744073709551616:Nat):Int))):Un .neg (.int .u64 a) k:=by
 refine⟨_,?_,h⟩
 simp only[ZV,wrap_u64,Option.some.injEq,Value.int.injEq,true_and];omega
theorem Un.KK(ha:a<18446744073709551616)(h:k (.int .u64 ((18446744073709551615-a:Nat):Int))):Un .xor (.int .u64 a) k:=by
 refine⟨_,?_,h⟩
 have e:(if IntKind.u64.signed=true then(-1:Int)else IntKind.u64.max)=((18446744073709551615:Nat):Int):=by decide
 simp only[ZV,e,(bits_nat (kd:=.u64) (a:=18446744073709551615) (b:=a) (by decide) ha).2.2.1,Option.some.injEq,Value.int.injEq,true_and]
 congr 1
 have:18446744073709551615^^^a=18446744073709551615-a:=by
  have GJ:a<2^64:=ha
  rw[show(18446744073709551615:Nat)=2^64-1 by rfl]
  apply Nat.eq_of_testBit_eq;intro j
  rw[Nat.testBit_xor,show 2^64-1-a=2^64-(a+1)by omega,Nat.testBit_two_pow_sub_succ GJ,Nat.testBit_two_pow_sub_one]
  by_cases hj:j<64
  ·simp[hj]
  ·simp[hj];exact Nat.testBit_lt_two_pow (Nat.lt_of_lt_of_le GJ (Nat.pow_le_pow_right (by decide) (by omega)))
 exact this
end
theorem Br.dec{p:Prop}[Decidable p]{t f:Prop}(h1:p→t)(h2:¬p→f):Br (.bool (decide p)) t f:=⟨_,rfl,fun h=>h1 (by simpa using h),fun h=>h2 (by simpa using h)⟩
theorem Br.gf{p:Prop}[Decidable p]{t f:Prop}(hp:p)(h1:t):Br (.bool (decide p)) t f:=Br.dec (fun _=>h1) fun h=>absurd hp h
theorem Br.cq{p:Prop}[Decidable p]{t f:Prop}(hp:¬p)(h1:f):Br (.bool (decide p)) t f:=Br.dec (fun h=>absurd h hp) fun _=>h1
end Go.Sx
namespace aj
open Go.Sx
def wN(n:Nat):Nat:=max 1 (2^n/64)
def ct(n:Nat):Nat:=if 6≤n then 18446744073709551615 else 2^2^n-1
structure cB(n:Nat)(ws:List Nat):Prop where
 lN:n≤16
 len:ws.length=wN n
 full:∀w∈ws,w≤ct n
instance (n:Nat)(ws:List Nat):Decidable (cB n ws):=decidable_of_iff (n≤16∧ws.length=wN n∧∀w∈ws,w≤ct n) ⟨fun⟨a,b,c⟩=>⟨a,b,c⟩,fun⟨a,b,c⟩=>⟨a,b,c⟩⟩
def bit(ws:List Nat)(x:Nat):Bool:=(ws.getD (x/64) 0).testBit (x%64)
def aI(x v:Nat)(b:Bool):Nat:=if b then x|||2^v else lH x (2^v)
theorem Bd(n:Nat):0<wN n:=Nat.le_max_left _ _
theorem sM{n:Nat}(h:6≤n):wN n=2^(n-6):=by
 unfold wN
 have:2^n/64=2^(n-6):=by
  rw[show(64:Nat)=2^6 by rfl,Nat.pow_div h (by decide)]
 rw[this];exact Nat.max_eq_right (Nat.two_pow_pos _)
theorem sL{n:Nat}(h:n<7):wN n=1:=by
 have:n=0∨n=1∨n=2∨n=3∨n=4∨n=5∨n=6:=by omega
 rcases this with rfl|rfl|rfl|rfl|rfl|rfl|rfl<;>rfl
theorem rj{n:Nat}(h:n≤16):wN n≤1024:=by
 by_cases h6:6≤n
 ·rw[sM h6];exact Nat.pow_le_pow_right (by decide) (by omega:n-6≤10)
 ·rw[sL (by omega)];decide
theorem pY(n:Nat):ct n<18446744073709551616:=by
 unfold ct
 split
 ·decide
 ·have h1:2^n≤32:=Nat.pow_le_pow_right (n:=2) (by decide) (by omega:n≤5)
  have h2:2^2^n≤2^32:=Nat.pow_le_pow_right (by decide) h1
  omega
theorem cB.lt{n:Nat}{ws:List Nat}(h:cB n ws){w:Nat}(hw:w∈ws):w<18446744073709551616:=Nat.lt_of_le_of_lt (h.full w hw) (pY n)
theorem mY{n w:Nat}(h:w≤ct n):w&&&ct n=w:=by
 unfold ct at*
 split at h
 ·rename_i h6
  rw[if_pos h6,show(18446744073709551615:Nat)=2^64-1 by rfl,Nat.and_two_pow_sub_one_eq_mod,Nat.mod_eq_of_lt (by omega)]
 ·rename_i h6
  rw[if_neg h6,Nat.and_two_pow_sub_one_eq_mod,Nat.mod_eq_of_lt]
  have:=Nat.two_pow_pos (2^n);omega
theorem fh(n j:Nat):(ct n).testBit j=decide (j<if 6≤n then 64 else 2^n):=by
 unfold ct
 split
 ·rw[show(18446744073709551615:Nat)=2^64-1 by rfl,Nat.testBit_two_pow_sub_one]
 ·rw[Nat.testBit_two_pow_sub_one]
theorem pM{n x:Nat}(h:x<2^n):x/64<wN n:=by
 by_cases h6:6≤n
 ·rw[sM h6]
  refine Nat.div_lt_of_lt_mul ?_
  rw[show(64:Nat)=2^6 by rfl,←Nat.pow_add]
  rwa [show 6+(n-6)=n by omega]
 ·have h1:2^n≤32:=Nat.pow_le_pow_right (n:=2) (by decide) (by omega:n≤5)
  rw[sL (by omega)];omega
theorem cB.ext{n:Nat}{a b:List Nat}(ha:cB n a)(hb:cB n b)(h:∀x,x<2^n→bit a x=bit b x):a=b:=by
 apply List.ext_getElem (by rw[ha.len,hb.len])
 intro i h1 h2
 apply Nat.eq_of_testBit_eq
 intro j
 have hfa:=mY (ha.full _ (List.getElem_mem h1))
 have X6:=mY (hb.full _ (List.getElem_mem h2))
 by_cases hj:j<(if 6≤n then 64 else 2^n)
 ·have aiN:j<64:=by
   split at hj
   ·exact hj
   ·have h1:2^n≤32:=Nat.pow_le_pow_right (n:=2) (by decide) (by omega:n≤5)
    omega
  have hx:64*i+j<2^n:=by
   by_cases h6:6≤n
   ·have hi:i<2^(n-6):=by rw[←sM h6,←ha.len];exact h1
    have:2^n=64*2^(n-6):=by rw[show(64:Nat)=2^6 by rfl,←Nat.pow_add];congr 1;omega
    omega
   ·have hi:i<1:=by rw[←sL (show n<7 by omega),←ha.len];exact h1
    rw[if_neg h6]at hj;omega
  have:=h _ hx
  unfold bit at this
  rw[show(64*i+j) /64=i by omega,show(64*i+j)%64=j by omega]at this
  simpa[h1,h2]using this
 ·have hd:(ct n).testBit j=false:=by rw[fh];simpa using hj
  rw[←hfa,←X6,Nat.testBit_and,Nat.testBit_and,hd];simp
def yg(v:Nat):Nat→Nat
 |0=>0
 |j+1=>yg v j|||(((j>>>v) &&&1)<<<j)
def mask(v:Nat):Nat:=yg v 64
theorem e9(m:Nat):m&&&1=if m.testBit 0 then 1 else 0:=by
 rw[Nat.and_one_is_mod,Nat.testBit_zero]
 rcases Nat.mod_two_eq_zero_or_one m with h|h<;>simp[h]
theorem pw(v:Nat):∀J k,(yg v J).testBit k=(decide (k<J) &&k.testBit v)
 |0,k=>by simp[yg]
 |J+1,k=>by
  rw[yg,Nat.testBit_or,pw v J k,e9,Nat.testBit_shiftRight,Nat.add_zero]
  by_cases e:k=J
  ·subst e
   cases hb:k.testBit v<;>simp[Nat.testBit_shiftLeft]
  ·have:((if(J.testBit v)=true then 1 else 0)<<<J).testBit k=false:=by
    rw[Nat.testBit_shiftLeft]
    split
    ·by_cases hk:J≤k
     ·have h1:Nat.testBit 1 (k-J)=false:=Nat.testBit_lt_two_pow (Nat.one_lt_two_pow (by omega))
      simp[hk,h1]
     ·simp[hk]
    ·simp
   rw[this]
   have:(decide (k<J+1))=decide (k<J):=by simp;omega
   rw[this];simp
theorem yf(v:Nat):∀J,yg v J<2^J
 |0=>by simp[yg]
 |J+1=>by
  have h1:=yf v J
  have h2:((J>>>v) &&&1)<<<J<2^(J+1):=by
   rw[e9,Nat.shiftLeft_eq]
   split
   ·rw[Nat.one_mul];exact Nat.pow_lt_pow_right (by decide) (by omega)
   ·rw[Nat.zero_mul];exact Nat.two_pow_pos _
  exact Nat.or_lt_two_pow (Nat.lt_of_lt_of_le h1 (Nat.pow_le_pow_right (by decide) (by omega))) h2
theorem dB(v k:Nat):(mask v).testBit k=(decide (k<64) &&k.testBit v):=pw v 64 k
theorem su(v:Nat):mask v<18446744073709551616:=yf v 64
def dG(ws:List Nat)(v:Nat)(b:Bool)(i:Nat):Nat:=
 if 6≤v then ws.getD (aI i (v-6) b) 0
 else if b then(ws.getD i 0&&&mask v)|||(ws.getD i 0&&&mask v)>>>2^v
 else lH (ws.getD i 0) (mask v)|||(lH (ws.getD i 0) (mask v)<<<2^v)%18446744073709551616
def ed(n:Nat)(ws:List Nat)(v:Nat)(b:Bool):List Nat:=(List.range (wN n)).map fun i=>dG ws v b i&&&ct n
theorem cH{n v:Nat}{ws:List Nat}{b:Bool}(h:n≤16):cB n (ed n ws v b):=by
 refine⟨h,by simp[ed],fun w hw=>?_⟩
 obtain⟨i,_,rfl⟩:=List.mem_map.1 hw
 exact Nat.and_le_right
theorem au(x v:Nat)(b:Bool)(k:Nat):(aI x v b).testBit k=if k=v then b else x.testBit k:=by
 unfold aI
 cases b<;>simp only[if_true,Bool.false_eq_true,if_false]
 ·rw[cZ,Nat.testBit_two_pow]
  by_cases e:k=v
  ·simp[e]
  ·simp[e,Ne.symm e]
 ·rw[Nat.testBit_or,Nat.testBit_two_pow]
  by_cases e:k=v
  ·simp[e]
  ·simp[e,Ne.symm e]
theorem fj{x v n:Nat}{b:Bool}(hx:x<2^n)(hv:v<n):aI x v b<2^n:=by
 unfold aI
 split
 ·exact Nat.or_lt_two_pow hx (Nat.pow_lt_pow_right (by decide) hv)
 ·exact Nat.lt_of_le_of_lt (jS _ _) hx
theorem BE:∀v:Fin 6,∀j:Fin 64,(j.1.testBit v.1=true→aI j v true=j∧aI j v false=j-2^v.1∧2^v.1≤j.1∧(j.1+2^v.1).testBit v.1=false∧(j.1-2^v.1).testBit v.1=false)∧
  (j.1.testBit v.1=false→aI j v true=j.1+2^v.1∧j.1+2^v.1<64∧aI j v false=j∧(j.1+2^v.1).testBit v.1=true∧(2^v.1≤j.1→(j.1-2^v.1).testBit v.1=true)):=by decide+kernel
theorem oA{x v:Nat}{b:Bool}:(6≤v→aI x v b/64=aI (x/64) (v-6) b∧aI x v b%64=x%64)∧(v<6→aI x v b/64=x/64∧aI x v b%64=aI (x%64) v b):=by
 have GJ:∀y:Nat,y/64=y>>>6:=fun y=>by rw[Nat.shiftRight_eq_div_pow]
 have m64:∀y:Nat,y%64=y%2^6:=fun y=>rfl
 refine⟨fun h=>⟨?_,?_⟩,fun h=>⟨?_,?_⟩⟩<;>apply Nat.eq_of_testBit_eq<;>intro k
 ·rw[GJ,GJ,Nat.testBit_shiftRight,au,au,Nat.testBit_shiftRight]
  by_cases e:k=v-6
  ·rw[if_pos e,if_pos (by omega)]
  ·rw[if_neg e,if_neg (by omega)]
 ·rw[m64 (aI x v b),m64 x,Nat.testBit_mod_two_pow,Nat.testBit_mod_two_pow,au]
  by_cases hk:k<6
  ·rw[if_neg (by omega)]
  ·simp[hk]
 ·rw[GJ,GJ,Nat.testBit_shiftRight,au,Nat.testBit_shiftRight,if_neg (by omega)]
 ·rw[m64 (aI x v b),m64 x,Nat.testBit_mod_two_pow,au,au,Nat.testBit_mod_two_pow]
  by_cases e:k=v
  ·subst e;simp[h]
  ·simp[e]
theorem eV{n v x:Nat}{ws:List Nat}{b:Bool}(hf:cB n ws)(hv:v<n)(hx:x<2^n):bit (ed n ws v b) x=bit ws (aI x v b):=by
 have hi:=pM hx
 unfold bit
 have gX:(ed n ws v b).getD (x/64) 0=dG ws v b (x/64) &&&ct n:=by
  simp[ed,hi]
 rw[gX,Nat.testBit_and,fh]
 have X6:decide (x%64<if 6≤n then 64 else 2^n)=true:=by
  rw[decide_eq_true_eq]
  split
  ·exact Nat.mod_lt _ (by decide)
  ·have h1:2^n≤32:=Nat.pow_le_pow_right (n:=2) (by decide) (by omega:n≤5)
   omega
 rw[X6,Bool.and_true]
 unfold dG
 by_cases h6:6≤v
 ·rw[if_pos h6,(oA.1 h6).1,(oA.1 h6).2]
 ·rw[if_neg h6]
  obtain⟨e1,e2⟩:=(oA (x:=x) (v:=v) (b:=b)).2 (by omega)
  rw[e1,e2]
  generalize hw:ws.getD (x/64) 0=w
  have MG:w<2^64:=by
   rw[←hw]
   rw[List.getD_eq_getElem?_getD,List.getElem?_eq_getElem (by rw[hf.len];exact hi)]
   exact hf.lt (List.getElem_mem _)
  have hj:x%64<64:=Nat.mod_lt _ (by decide)
  generalize x%64=j at hj
  obtain⟨s1,s2⟩:=BE ⟨v,by omega⟩ ⟨j,hj⟩
  simp only at s1 s2
  cases b
  ·simp only[Bool.false_eq_true,if_false]
   rw[show(18446744073709551616:Nat)=2^64 by rfl,Nat.testBit_or,Nat.testBit_mod_two_pow,Nat.testBit_shiftLeft,cZ,cZ,dB,dB]
   cases hb:j.testBit v
   ·obtain⟨t1,t2,t3,t4,t5⟩:=s2 hb
    rw[t3]
    by_cases hle:2^v≤j
    ·have:=t5 hle
     have GJ:j-2^v<64:=Nat.lt_of_le_of_lt (Nat.sub_le _ _) hj
     simp[hj,this,GJ]
    ·simp[hj,hle]
   ·obtain⟨t1,t2,t3,t4,t5⟩:=s1 hb
    rw[t2]
    simp[hj,t3,t5]
  ·simp only[if_true]
   rw[Nat.testBit_or,Nat.testBit_and,Nat.testBit_shiftRight,Nat.testBit_and,dB,dB]
   cases hb:j.testBit v
   ·obtain⟨t1,t2,t3,t4,t5⟩:=s2 hb
    rw[t1,Nat.add_comm (2^v) j]
    simp[hj,t2,t4]
   ·obtain⟨t1,t2,t3,t4,t5⟩:=s1 hb
    rw[t1,Nat.add_comm (2^v) j]
    simp[hj,t4]
def dep(n:Nat)(ws:List Nat)(v:Nat):Bool:=decide (ed n ws v false≠ed n ws v true)
theorem qx(x v:Nat):aI x v (x.testBit v)=x:=by
 apply Nat.eq_of_testBit_eq;intro k
 rw[au]
 by_cases e:k=v
 ·rw[if_pos e,e]
 ·rw[if_neg e]
theorem mR{n v:Nat}{ws:List Nat}{b:Bool}(hf:cB n ws)(hv:v<n)(h:dep n ws v=false):ed n ws v b=ws:=by
 have he:ed n ws v false=ed n ws v true:=by simpa[dep]using h
 have aK:∀c d,ed n ws v c=ed n ws v d:=by intro c d;cases c<;>cases d<;>first|rfl|exact he|exact he.symm
 refine(cH hf.lN).ext hf fun x hx=>?_
 rw[aK b (x.testBit v),eV hf hv hx,qx]
theorem sD{n v:Nat}{ws:List Nat}(hf:cB n ws)(hv:v<n):dep n ws v=true↔∃x,x<2^n∧bit ws (aI x v false)≠bit ws (aI x v true):=by
 constructor
 ·intro h
  refine Classical.byContradiction fun hno=>?_
  have:ed n ws v false=ed n ws v true:=(cH hf.lN).ext (cH hf.lN) fun x hx=>by
   rw[eV hf hv hx,eV hf hv hx]
   exact Classical.byContradiction fun hne=>hno ⟨x,hx,hne⟩
  simp[dep,this]at h
 ·rintro⟨x,hx,hne⟩
  simp only[dep,ne_eq,decide_eq_true_eq]
  intro he
  apply hne
  rw[←eV hf hv hx,←eV hf hv hx,he]
end aj
namespace Go.Sx
open Go
inductive aV:Hp→Hp→Prop
 |refl (B:Hp):aV B B
 |cons {x:Nat×Obj} {B H:Hp} (h:aV B H):aV B (x::H)
 |app {N B H:Hp} (h:aV B H):aV B (N++H)
theorem aV.spec{B H:Hp}(h:aV B H):∃N,H=N++B:=by
 induction h with
 |refl=>exact⟨[],rfl⟩
 | @cons x B H h ih=>obtain⟨N,rfl⟩:=ih;exact⟨x::N,rfl⟩
 | @app M B H h ih=>obtain⟨N,rfl⟩:=ih;exact⟨M++N,by rw[List.append_assoc]⟩
theorem aV.sub{B H:Hp}(h:aV B H):∀x∈B,x∈H:=by
 obtain⟨N,rfl⟩:=h.spec;exact fun x hx=>List.mem_append_right _ hx
theorem aV.rR{B H:Hp}(h:aV B H):aO H B:=by
 obtain⟨N,rfl⟩:=h.spec;exact aO.right
section
variable {P:Program} {g:Gh} {H:Hp}
def Px(P:Program)(f:FuncId)(args:Array Value)(B:Hp)(Q:Value→Hp→Prop):Prop:=Fc P f args B (fun v H=>aV B H∧Q v H)
theorem ag.px{f:FuncId}{args:Array Value}{B H:Hp}{c:Hp→Hp}{Q:Value→Hp→Prop}{K:Value→Hp→Prop}{KP:List PanicEntry→Hp→Prop}(hh:cy B H c)(hc:Px P f args B Q)
 (hk:∀v N,Q v (N++B)→K v (c (N++B))):ag P g f args H K KP:=
 ag.fn hh hc fun v C' ⟨h1,h2⟩=>by obtain⟨N,rfl⟩:=h1.spec;exact hk v N h2
theorem ag.pre{f:FuncId}{args:Array Value}{H':Hp}{K:Value→Hp→Prop}{KP:List PanicEntry→Hp→Prop}(he:aO H H')(h:ag P g f args H' K KP):ag P g f args H K KP:=ai.pre h he
theorem aO.swap{x y:Nat×Obj}{A:Hp}:aO (x::y::A) (y::x::A):=.perm (.swap _ _ _)
theorem oV.mk{Q:Value→Hp→Prop}{v:Value}{B H:Hp}(he:aV B H)(h:Q v H):aF (fun v H=>aV B H∧Q v H) (.returned v) H:=⟨v,H,rfl,.refl _,he,h⟩
theorem bO.mk{Q:Value→Prop}{v:Value}{B H:Hp}(he:aO H B)(h:Q v):aF (fun v H=>H=B∧Q v) (.returned v) H:=⟨v,B,rfl,he,rfl,h⟩
def aC(kd:IntKind)(l:List Int):Array Value:=(l.map fun n=>Value.int kd n).toArray
theorem Ca(kd:IntKind)(l:List Int)(i:Nat)(n:Int):(aC kd l).setIfInBounds i (.int kd n)=aC kd (l.set i n):=by
 simp[aC,List.map_set]
@[simp] theorem Sj(kd:IntKind)(l:List Int):(aC kd l).size=l.length:=by simp[aC]
theorem Io(kd:IntKind)(n:Nat):madeCells (Value.cells (.int kd 0)) (n*1)=aC kd (List.replicate n 0):=by
 apply Array.ext
 ·simp[madeCells,aC]
 ·intro i h1 h2
  simp[madeCells,aC,Value.cells,Nat.mod_one]
def bW(kd:IntKind)(B:Hp)(v:Value)(l:List Int):Prop:=Sl 1 B v (l.map fun n=>[Value.int kd n])
theorem bW.mono{kd:IntKind}{B B':Hp}{v:Value}{l:List Int}(h:bW kd B v l)(hs:∀x∈B,x∈B'):bW kd B' v l:=Sl.mono h hs
theorem bW.nil{kd:IntKind}{B:Hp}:bW kd B (.slice none 0 0) []:=Sl.nil _ _
theorem bW.aR{kd:IntKind}{B:Hp}{v:Value}{l:List Int}(h:bW kd B v l){K:Value→Prop}(hk:K (.int .i64 l.length)):aG v K:=Sl.aR h (by simpa using hk)
theorem bW.block{kd:IntKind}{B:Hp}{b cap:Nat}{l:List Int}{T:TypeId}{fz:Nat×Nat}(hm:(b,Obj.cells (aC kd l) T fz)∈B)(hc:l.length≤cap):bW kd B (.slice (some ⟨b,0,none⟩) l.length cap) l:=by
 refine⟨by simp,.inr ⟨b,0,cap,_,T,fz,by simp,by simpa using hc,hm,by simp[aC],fun i r hi j v hj=>?_⟩⟩
 rw[List.getElem?_map]at hi
 cases hl:l[i]? with
 |none=>rw[hl]at hi;simp at hi
 |some n=>
  rw[hl]at hi
  simp only[Option.map_some,Option.some.injEq]at hi
  subst hi
  cases j with
  |zero=>
   simp only[List.getElem?_cons_zero,Option.some.injEq]at hj
   subst hj
   simp[aC,hl]
  |succ j=>simp at hj
theorem bW.at{kd xP:IntKind}{B:Hp}{v:Value}{l:List Int}(h:bW kd B v l){i:Nat}{n:Int}(hi:l[i]? =some n){K:Value→Prop}(hk:∀p,At B p [.int kd n]→K p):ah 1 v (.int xP (i:Int)) K:=
 ah.sl h (by rw[List.getElem?_map,hi];rfl) hk
theorem bW.ld{kd xP:IntKind}{B:Hp}{v:Value}{l:List Int}(h:bW kd B v l){i:Nat}{n:Int}(hi:l[i]? =some n)(hs:∀x∈B,x∈H){K:Value→Prop}(hk:K (.int kd n)):ah 1 v (.int xP (i:Int)) (fun p=>Ld H p K):=
 h.at hi fun p hp=>Ld.at hp hs hk
theorem cc.ints{T:TypeId}{kd kl:IntKind}{bytes n:Nat}{K:Value→Hp→Prop}(bE:n≤9223372036854775807)(hb:n*bytes≤281474976710656)
 (h:∀b,K (.slice (some ⟨b,0,none⟩) n n) ((b,.cells (aC kd (List.replicate n 0)) T (0,0))::H)):cc T 1 bytes (.int kd 0) H (.int kl n) (.int kl n) K:=
 ⟨kl,kl,n,n,rfl,rfl,Nat.le_refl _,by omega,hb,fun b _=>by rw[Io];exact h b⟩
theorem St.ints{b i:Nat}{kd:IntKind}{l:List Int}{x:Int}{T:TypeId}{H':Hp}{K:Hp→Prop}(hu:cJ b (.cells (aC kd l) T (0,0)) (.cells (aC kd (l.set i x)) T (0,0)) H H')(hi:i<l.length)(h:K H'):
  St 1 H (.pointer (some ⟨b,0+i*1,none⟩)) (.int kd x) K:=
 St.one (c:=aC kd l) (c':=aC kd (l.set i x)) hu rfl (by simpa using hi) (by rw[Nat.zero_add,Nat.mul_one];exact Ca kd l i x) h
end
def bg:List Value→Nat→Nat
 | .int _ q::_,0=>q.toNat
 |_::r,i+1=>bg r i
 |_,_=>0
structure Tb where
 n:Int
 ws:List Nat
 deriving DecidableEq
def iw(ws:List Nat):List Int:=ws.map (Nat.cast:Nat→Int)
@[simp] theorem an(ws:List Nat):(iw ws).length=ws.length:=by simp[iw]
theorem cj{ws:List Nat}{i w:Nat}(h:ws[i]? =some w):(iw ws)[i]? =some (w:Int):=by simp[iw,h]
def Words(B:Hp)(s:Value)(ws:List Nat):Prop:=bW .u64 B s (iw ws)∧∀w∈ws,w<18446744073709551616
theorem Words.mono{B B':Hp}{v:Value}{ws:List Nat}(h:Words B v ws)(hs:∀x∈B,x∈B'):Words B' v ws:=⟨h.1.mono hs,h.2⟩
theorem Words.block{B:Hp}{b cap:Nat}{ws:List Nat}{T:TypeId}{fz:Nat×Nat}(hm:(b,Obj.cells (aC .u64 (iw ws)) T fz)∈B)(hc:ws.length≤cap)(hw:∀w∈ws,w<18446744073709551616):Words B (.slice (some ⟨b,0,none⟩) ws.length cap) ws:=by
 have:=bW.block (cap:=cap) hm (by simpa using hc)
 rw[an]at this
 exact⟨this,hw⟩
def j5(B:Hp)(v:Value)(t:Tb):Prop:=∃s,v=.agg #[.int .i64 t.n,s]∧Words B s t.ws
theorem j5.mono{B B':Hp}{v:Value}{t:Tb}(h:j5 B v t)(hs:∀x∈B,x∈B'):j5 B' v t:=let ⟨s,h1,h2⟩:=h;⟨s,h1,h2.mono hs⟩
def OC(B:Hp)(r:List Value)(t:Tb):Prop:=∃s,r=[.int .i64 t.n,s]∧Words B s t.ws
theorem OC.mono{B B':Hp}{r:List Value}{t:Tb}(h:OC B r t)(hs:∀x∈B,x∈B'):OC B' r t:=let ⟨s,h1,h2⟩:=h;⟨s,h1,h2.mono hs⟩
def iq{α:Type}(p:List Value→α→Prop)(rs:List (List Value))(l:List α):Prop:=rs.length=l.length∧∀(i:Nat) (r:List Value) (x:α),rs[i]? =some r→l[i]? =some x→p r x
theorem iq.nil{α:Type}{p:List Value→α→Prop}:iq p [] []:=⟨rfl,by simp⟩
theorem iq.get{α:Type}{p:List Value→α→Prop}{rs:List (List Value)}{l:List α}(h:iq p rs l){i:Nat}{x:α}(hx:l[i]? =some x):∃r,rs[i]? =some r∧p r x:=by
 have hlt:=(List.getElem?_eq_some_iff.1 hx).1
 have:i<rs.length:=by rw[h.1];exact hlt
 exact⟨rs[i],List.getElem?_eq_getElem this,h.2 i _ _ (List.getElem?_eq_getElem this) hx⟩
theorem iq.mono{α:Type}{p q:List Value→α→Prop}{rs:List (List Value)}{l:List α}(h:iq p rs l)(hpq:∀r x,p r x→q r x):iq q rs l:=⟨h.1,fun i r x h1 h2=>hpq _ _ (h.2 i r x h1 h2)⟩
theorem iq.snoc{α:Type}{p:List Value→α→Prop}{rs:List (List Value)}{l:List α}(h:iq p rs l){r:List Value}{x:α}(hx:p r x):iq p (rs++[r]) (l++[x]):=by
 refine⟨by simp[h.1],fun i r' x' h1 h2=>?_⟩
 by_cases e:i<l.length
 ·rw[List.getElem?_append_left e]at h2
  rw[List.getElem?_append_left (by rw[h.1];exact e)]at h1
  exact h.2 i _ _ h1 h2
 ·rw[List.getElem?_append_right (by omega)]at h2
  rw[List.getElem?_append_right (by rw[h.1];omega),h.1]at h1
  cases hi:i-l.length with
  |zero=>rw[hi]at h1 h2;simp at h1 h2;subst h1;subst h2;exact hx
  |succ k=>rw[hi]at h2;simp at h2
def cT(B:Hp)(v:Value)(ts:List Tb):Prop:=∃rs,Sl 2 B v rs∧iq (OC B) rs ts
theorem cT.mono{B B':Hp}{v:Value}{ts:List Tb}(h:cT B v ts)(hs:∀x∈B,x∈B'):cT B' v ts:=let ⟨rs,h1,h2⟩:=h;⟨rs,h1.mono hs,h2.mono fun _ _ h=>h.mono hs⟩
theorem cT.aR{B:Hp}{v:Value}{ts:List Tb}(h:cT B v ts){K:Value→Prop}(hk:K (.int .i64 ts.length)):aG v K:=by
 obtain⟨rs,h1,h2⟩:=h;refine h1.aR ?_;have:=h2.1;rw[this];exact hk
theorem cT.ld{B H:Hp}{v:Value}{ts:List Tb}{kd:IntKind}(h:cT B v ts){i:Nat}{t:Tb}(hi:ts[i]? =some t)(hs:∀x∈B,x∈H){K:Value→Prop}(hk:∀s,Words B s t.ws→K (.agg #[.int .i64 t.n,s])):ah 2 v (.int kd (i:Int)) (fun p=>az 2 H p K):=by
 obtain⟨rs,h1,h2⟩:=h
 obtain⟨r,hr,s,rfl,hw⟩:=h2.get hi
 exact ah.sl h1 hr fun p hp=>az.at hp rfl (by decide) hs (hk s hw)
theorem cT.Xe{B H:Hp}{v:Value}{ts:List Tb}{kd:IntKind}(h:cT B v ts){i:Nat}{t:Tb}(hi:ts[i]? =some t)(hs:∀x∈B,x∈H){K:Value→Prop}(hk:K (.int .i64 t.n)):ah 2 v (.int kd (i:Int)) (fun p=>aa 0 p (fun q=>Ld H q K)):=by
 obtain⟨rs,h1,h2⟩:=h
 obtain⟨r,hr,s,rfl,hw⟩:=h2.get hi
 exact ah.sl h1 hr fun p hp=>aa.at hp fun q hq=>Ld.at hq hs hk
theorem cT.one{B:Hp}{b cap:Nat}{t:Tb}{s:Value}{T:TypeId}{fz:Nat×Nat}(hm:(b,Obj.cells #[.int .i64 t.n,s] T fz)∈B)(hw:Words B s t.ws):cT B (.slice (some ⟨b,0,none⟩) 1 (cap+1)) [t]:=by
 refine⟨[[.int .i64 t.n,s]],⟨by simp,.inr ⟨b,0,cap+1,_,T,fz,rfl,by simp,hm,by simp,fun i r hi j v hj=>?_⟩⟩,rfl,fun i r x h1 h2=>?_⟩
 ·cases i with
  |zero=>simp at hi;subst hi;simpa using hj
  |succ i=>simp at hi
 ·cases i with
  |zero=>simp at h1 h2;subst h1;subst h2;exact⟨s,rfl,hw⟩
  |succ i=>simp at h1
def TF(t:Tb):Prop:=0≤t.n∧aj.cB t.n.toNat t.ws
instance (t:Tb):Decidable (TF t):=by unfold TF;infer_instance
end Go.Sx
namespace Go.Sx
open Go Go.RowKit
section
variable {P:Program}
def whole(W:World):Hp:=(List.range W.heap.size).map fun i=>(i,W.heap.getD i default)
theorem Ie(W:World):Own ⟨W,[]⟩ (whole W) W:=by
 refine⟨rfl,rfl,rfl,?_,?_⟩
 ·have:(whole W).map Prod.fst=List.range W.heap.size:=by
   unfold whole
   rw[List.map_map]
   have:(Prod.fst∘fun i=>(i,W.heap.getD i default))=id:=by funext i;rfl
   rw[this,List.map_id]
  rw[List.append_nil,this];exact List.nodup_range
 ·intro x hx
  rw[List.append_nil]at hx
  obtain⟨i,hi,rfl⟩:=List.mem_map.1 hx
  have:=List.mem_range.1 hi
  simp[Array.getD_eq_getD_getElem?,this]
theorem Own.below{W W':World}(h:Own ⟨W,[]⟩ (whole W) W'):Below W.heap.size W W':=by
 have hb:∀k,k<W.heap.size→W'.heap[k]? =W.heap[k]? :=fun k hk=>by
  have:=h.has (k,W.heap.getD k default) (List.mem_map.2 ⟨k,List.mem_range.2 hk,rfl⟩)
  simp only at this
  rw[this];simp[Array.getD_eq_getD_getElem?,hk]
 refine⟨h.os,h.tape,h.out,?_,hb⟩
 rcases Nat.eq_zero_or_pos W.heap.size with h0|h0
 ·omega
 ·have:=hb (W.heap.size-1) (by omega)
  rw[show W.heap[W.heap.size-1]? =some (W.heap[W.heap.size-1]'(by omega))from Array.getElem?_eq_getElem (by omega)]at this
  have:=(Array.getElem?_eq_some_iff.1 this).1
  omega
theorem Is{f:FuncId}{args:Array Value}{W:World}(h:ai P ⟨W,[]⟩ f args (whole W) (fun e H'=>e=.returned (.bool true)∧aO H' (whole W))):
  Calls P f args W fun e W'=>e=.returned (.bool true)∧Below W.heap.size W W':=
 (h W (Ie W)).mono fun e W' ⟨H',ho,he,tO⟩=>⟨he,(tO _ _ ho).below⟩
theorem Uo{f:FuncId}{args:Array Value}{W:World}(h:Px P f args (whole W) (fun v _=>v=.bool true)):
  Calls P f args W fun e W'=>e=.returned (.bool true)∧Below W.heap.size W W':=
 Is ((h ⟨W,[]⟩).post fun e H' ⟨v,C,he,tO,hg,hv⟩=>⟨H',.refl _,by rw[he,hv],tO.trans hg.rR⟩)
section
variable {H:Type} {enc:TypeId×Value→H}
open Go.ChangeShapes Go.WideShapes Go.ChangeAt Go.RowKit
theorem nZ(hl:laidOutB P=true){W W':World}{sp:Nat→Bool}(hb:Below W.heap.size W W'):∀(ts:List TypeId) (vs:List Value) (ds:List (DataW H)) (ps:List MemPlace),
  (∀t∈ts,P.readableRec t=true∧t<P.types.size)→DataW.TrodAll enc P W 0 (fun _=>true) true ts vs ds ps→(∀x∈ps,x.block<W.heap.size)→(∀x∈ps,sp x.block=true)→DataW.TrodAll enc P W' 0 sp true ts vs ds ps
 | [],vs,ds,ps,_,h,_,_=>by
  obtain⟨rfl,rfl,rfl⟩:=trodAll_nil h;exact trodAll_mk0
 |t::ts,vs,ds,ps,hr,h,hlt,hsp=>by
  obtain⟨v,vs',d,ds',p,q,rfl,rfl,rfl,h0,h1⟩:=trodAll_cons h
  have ht:=hr t (by simp)
  exact trodAll_cons_mk (WideElems.Trod_stays hl ht.1 ht.2 h0 (fun x hx=>hb.same (hlt x (by simp[hx]))) (fun x hx=>hsp x (by simp[hx])))
   (nZ hl hb ts vs' ds' q (fun t' h'=>hr t' (by simp[h'])) h1 (fun x hx=>hlt x (by simp[hx])) (fun x hx=>hsp x (by simp[hx])))
theorem Mr{f:Func}{s:ChangeSpec}{W W':World}{args:Array Value}{ds gs:List (DataW H)}{before:List MemPlace}{tb:TypeId}(hvars:s.vars=[])
 (hW:DataW.Whole enc P f.params.toList s.vars false W args.toList ds gs before)(hs:s.fn H (ds++gs)={results:=[.lit (.bool true)],args:=ds})(hb:Below W.heap.size W W')
 (hl:laidOutB P=true)(hr:∀t∈f.params.toList,P.readableRec t=true∧t<P.types.size)(hrt:f.resultTypes=#[tb])(Yf:P.underlying tb=some .bool):
  s.post enc P f false true false false W args (.bool true) W':=by
 have hW':=hW
 have hlt:=hW.lt
 obtain⟨p,q,hA,hV,rfl,hfz,g8⟩:=hW
 rw[hvars]at hV
 obtain⟨rfl,rfl⟩:=trodVars_none hV
 refine⟨ds,_,_,[],p,[],hW',?_,?_,?_,World.keptBut_mono (fun p hp=>⟨hp,?_⟩) (hb.frame (· ∈p++[])),fun h=>by cases h⟩
 ·rw[hs,hrt];exact trodAll_cons_mk (shut_bool Yf _) trodAll_mk0
 ·rw[hs]
  exact nZ hl hb _ _ _ _ hr hA (fun x hx=>hlt x (by simp[hx])) (fun x hx=>by simpa using hlt x (by simp[hx]))
 ·rw[hvars,hs];rfl
 ·right;simpa using hp
end
end
end Go.Sx
namespace Go.Sx
open Go
section
variable {P:Program} {g:Gh} {H:Hp}
theorem av.cell{t e:TypeId}{z x:Value}{K:Value→Hp→Prop}(h1:P.underlying t=some (.slice e))(h2:dO P e=some 1)(h3:fu P e=some z)(hx:x.oneCell'=true)
 (h:∀b,K (.slice (some ⟨b,0,Option.none⟩) 1 1) ((b,.cells #[x] e (0,0))::H)):av P t 1 [(0,x)] H K:=by
 refine⟨#[x],e,1,z,h1,h2,h3,by omega,?_,fun b _=>h b⟩
 have hxc:x.cells=#[x]:=by cases x<;>first|rfl|(simp[Value.oneCell']at hx)
 have:((Array.range (1*1)).map (z.cells[· %z.cells.size]!))=[z.cells[0%z.cells.size]!].toArray:=by
  rw[show Array.range (1*1)=#[0]by decide];simp
 rw[this]
 refine lD _ _ _ ?_
 simp only[ua,hxc]
 rfl
theorem aS.agU{T:TypeId}{v x:Value}{rs:List (List Value)}{C:Hp}(hs:aS T 1 v rs C){i:Nat}(hi:i<rs.length)(hr:rs[i]? =some [x])(hC:∀y∈C,y∈H){K:Value→Prop}(hk:K x):
  ah 1 v (.int .i64 (i:Int)) fun p=>Ld H p K:=by
 obtain⟨b',aL,rfl,rfl,aK⟩:=hs.pos (by omega)
 refine ah.nat hi ?_
 exact Ld.W4 (l:=rs++aL) (hC _ (List.Mem.head _)) aK (by rw[List.getElem?_append_left hi];exact hr) hk
theorem aS.abV{T:TypeId}{v x y:Value}{rs:List (List Value)}{C A B:Hp}(hs:aS T 1 v rs C){i:Nat}(hi:i<rs.length)(hr:rs[i]? =some [y])(h1:x.oneCell'=true){K:Hp→Prop}
 (hk:∀C',aS T 1 v (rs.set i [x]) C'→K (A++(C'++B))):ah 1 v (.int .i64 (i:Int)) fun p=>St 1 (A++(C++B)) p x K:=by
 obtain⟨b',aL,rfl,rfl,aK⟩:=hs.pos (by omega)
 refine ah.nat hi ?_
 refine St.cell (l:=rs++aL) (i:=i) (k:=1) (j:=0) (r:=[y]) (((cJ.head _).append B).bI A) aK (by rw[List.getElem?_append_left hi];exact hr) (by omega) h1 ?_
 have e:(rs++aL).set i ([y].set 0 x)=rs.set i [x]++aL:=by rw[List.set_append_left _ _ hi];rfl
 rw[e]
 refine hk [(b',_)] (aS.mk' (aL:=aL) (fun r hr'=>?_) (by simp) (by simp))
 rcases List.mem_append.1 hr' with hr'|hr'
 ·rcases List.mem_or_eq_of_mem_set hr' with hr'|rfl
  ·exact aK r (by simp[hr'])
  ·rfl
 ·exact aK r (by simp[hr'])
end
end Go.Sx
namespace Go.Sx
open Go
section
variable {κ β:Type} [DecidableEq κ]
structure bu(ke:κ→Value)(vr:Value→β→Prop)(es:Array MapEntry)(ck:Nat)(m:List (κ×β)):Prop where
 len:es.size=m.length
 key:∀(i:Nat) (e:MapEntry) (x:κ×β),es[i]? =some e→m[i]? =some x→e.key=ke x.1∧vr e.val x.2
 nd:(m.map Prod.fst).Nodup
 born:(es.toList.map MapEntry.born).Nodup
 lt:∀e∈es.toList,e.born<ck
variable {ke:κ→Value} {vr:Value→β→Prop} {es:Array MapEntry} {ck:Nat} {m:List (κ×β)}
theorem bu.empty:bu ke vr #[] 0 []:=⟨rfl,by simp,by simp,by simp,by simp⟩
theorem bu.mono{VT:Value→β→Prop}(h:bu ke vr es ck m)(hv:∀v x,vr v x→VT v x):bu ke VT es ck m:=⟨h.len,fun i e x h1 h2=>⟨(h.key i e x h1 h2).1,hv _ _ (h.key i e x h1 h2).2⟩,h.nd,h.born,h.lt⟩
def gU(m:List (κ×β))(k:κ)(x:β):List (κ×β):=if k∈m.map Prod.fst then m.map (fun y=>if y.1=k then(k,x)else y)else m++[(k,x)]
def er(m:List (κ×β))(k:κ):Option β:=(m.find? (fun y=>y.1=k)).map Prod.snd
theorem jj{m:List (κ×β)}{k:κ}{x:β}(nd:(m.map Prod.fst).Nodup):er m k=some x↔(k,x)∈m:=by
 induction m with
 |nil=>simp[er]
 |cons y r ih=>
  rw[List.map_cons,List.nodup_cons]at nd
  obtain⟨a,b⟩:=y
  simp only[er,List.find?_cons]at ih⊢
  by_cases e:a=k
  ·subst e
   simp only[decide_true,Option.map_some,Option.some.injEq,List.mem_cons,Prod.mk.injEq,true_and]
   constructor
   ·intro h;exact .inl h.symm
   ·rintro(h|h)
    ·exact h.symm
    ·exact absurd (List.mem_map.2 ⟨_,h,rfl⟩) nd.1
  ·simp only[e,decide_false,List.mem_cons,Prod.mk.injEq,Ne.symm e,false_and,false_or]
   exact ih nd.2
theorem kx{m:List (κ×β)}{k:κ}:er m k=none↔k∉m.map Prod.fst:=by
 simp only[er,Option.map_eq_none_iff,List.find?_eq_none,decide_eq_true_eq,List.mem_map,not_exists,not_and]
theorem bu.findNow{kd:TypeDesc}(hk:∀a b,Instr.sameNow kd (ke a) (ke b)=some (decide (a=b)))(h:bu ke vr es ck m)(k:κ):
  (∃(i:Nat) (x:β) (e:MapEntry),es[i]? =some e∧m[i]? =some (k,x)∧vr e.val x∧Instr.findNow kd (ke k) es.toList 0=some (some (i,e.val)))∨(k∉m.map Prod.fst∧Instr.findNow kd (ke k) es.toList 0=some none):=by
 have key:∀(l:List MapEntry) (q:List (κ×β)) (j:Nat),l.length=q.length→(∀(i:Nat) (e:MapEntry) (x:κ×β),l[i]? =some e→q[i]? =some x→e.key=ke x.1∧vr e.val x.2)→
   (∃(i:Nat) (x:β) (e:MapEntry),l[i]? =some e∧q[i]? =some (k,x)∧vr e.val x∧Instr.findNow kd (ke k) l j=some (some (j+i,e.val)))∨(k∉q.map Prod.fst∧Instr.findNow kd (ke k) l j=some none):=by
  intro l
  induction l with
  |nil=>intro q j hl _;cases q with|nil=>exact .inr ⟨by simp,rfl⟩|cons a b=>simp at hl
  |cons e r ih=>
   intro q j hl hkey
   cases q with
   |nil=>simp at hl
   |cons y q=>
    obtain⟨h1,h2⟩:=hkey 0 e y rfl rfl
    simp only[Instr.findNow,h1,hk]
    by_cases e0:k=y.1
    ·subst e0
     exact .inl ⟨0,y.2,e,rfl,rfl,h2,by simp⟩
    ·rw[decide_eq_false e0]
     rcases ih q (j+1) (by simpa using hl) (fun i e x h1 h2=>hkey (i+1) e x (by simpa using h1) (by simpa using h2))with⟨i,x,e',g1,g2,g3,g4⟩|⟨g1,g2⟩
     ·exact .inl ⟨i+1,x,e',by simpa using g1,by simpa using g2,g3,by simp only[g4];rw[show j+1+i=j+(i+1)by omega]⟩
     ·exact .inr ⟨by rw[List.map_cons,List.mem_cons];rintro(h|h);exact e0 h;exact g1 h,by simpa using g2⟩
 have:=key es.toList m 0 (by simpa using h.len) (fun i e x h1 h2=>h.key i e x (by simpa using h1) h2)
 rcases this with⟨i,x,e,g1,g2,g3,g4⟩|h2
 ·exact .inl ⟨i,x,e,by simpa using g1,g2,g3,by simpa using g4⟩
 ·exact .inr h2
theorem bu.Ak{P:Program}{kt:TypeId}(hk:∀a b,FO P kt (ke a) (ke b) (decide (a=b)))(h:bu ke vr es ck m)(k:κ):
  (∃(i:Nat) (x:β) (e:MapEntry),es[i]? =some e∧m[i]? =some (k,x)∧vr e.val x∧lU P kt (ke k) es.toList 0 (some (i,e.val)))∨(k∉m.map Prod.fst∧lU P kt (ke k) es.toList 0 none):=by
 have key:∀(l:List MapEntry) (q:List (κ×β)) (j:Nat),l.length=q.length→(∀(i:Nat) (e:MapEntry) (x:κ×β),l[i]? =some e→q[i]? =some x→e.key=ke x.1∧vr e.val x.2)→
   (∃(i:Nat) (x:β) (e:MapEntry),l[i]? =some e∧q[i]? =some (k,x)∧vr e.val x∧lU P kt (ke k) l j (some (j+i,e.val)))∨(k∉q.map Prod.fst∧lU P kt (ke k) l j none):=by
  intro l
  induction l with
  |nil=>intro q j hl _;cases q with|nil=>exact .inr ⟨by simp,rfl⟩|cons a b=>simp at hl
  |cons e r ih=>
   intro q j hl hkey
   cases q with
   |nil=>simp at hl
   |cons y q=>
    obtain⟨h1,h2⟩:=hkey 0 e y rfl rfl
    have hb:=hk k y.1
    rw[←h1]at hb
    by_cases e0:k=y.1
    ·refine .inl ⟨0,y.2,e,rfl,by rw[e0];rfl,h2,?_⟩
     exact⟨_,hb,fun _=>by simp,fun h=>by simp[e0]at h⟩
    ·rcases ih q (j+1) (by simpa using hl) (fun i e x h1 h2=>hkey (i+1) e x (by simpa using h1) (by simpa using h2))with⟨i,x,e',g1,g2,g3,g4⟩|⟨g1,g2⟩
     ·refine .inl ⟨i+1,x,e',by simpa using g1,by simpa using g2,g3,_,hb,fun h=>by simp[e0]at h,fun _=>?_⟩
      rw[show j+(i+1)=j+1+i by omega];exact g4
     ·exact .inr ⟨by rw[List.map_cons,List.mem_cons];rintro(h|h);exact e0 h;exact g1 h,_,hb,fun h=>by simp[e0]at h,fun _=>g2⟩
 have:=key es.toList m 0 (by simpa using h.len) (fun i e x h1 h2=>h.key i e x (by simpa using h1) h2)
 rcases this with⟨i,x,e,g1,g2,g3,g4⟩|h2
 ·exact .inl ⟨i,x,e,by simpa using g1,g2,g3,by simpa using g4⟩
 ·exact .inr h2
theorem bu.put(h:bu ke vr es ck m){i:Nat}{k:κ}{y x:β}{val:Value}(hi:m[i]? =some (k,y))(hv:vr val x):bu ke vr (es.modify i fun e=>{e with key:=ke k,val}) ck (gU m k x):=by
 have hmem:k∈m.map Prod.fst:=List.mem_map.2 ⟨_,List.mem_of_getElem? hi,rfl⟩
 have hlt:=(List.getElem?_eq_some_iff.1 hi).1
 have Xq:∀j z,m[j]? =some z→z.1=k→j=i:=fun j z hj hz=>by
  have hj':=(List.getElem?_eq_some_iff.1 hj).1
  have e1:(m.map Prod.fst)[j]? =some k:=by rw[List.getElem?_map,hj];simp[hz]
  have e2:(m.map Prod.fst)[i]? =some k:=by rw[List.getElem?_map,hi];rfl
  exact(List.getElem?_inj (by simpa using hj') h.nd).1 (e1.trans e2.symm)
 have hb:((es.modify i fun e=>{e with key:=ke k,val}).toList.map MapEntry.born)=es.toList.map MapEntry.born:=by
  apply List.ext_getElem?;intro j
  simp only[List.getElem?_map,Array.getElem?_toList,Array.getElem?_modify]
  split
  ·cases es[j]? <;>rfl
  ·rfl
 refine⟨by simp[gU,hmem,h.len],fun j e z he hz=>?_,?_,by rw[hb];exact h.born,fun e he=>?_⟩
 ·simp only[gU,hmem,if_true,List.getElem?_map]at hz
  rw[Array.getElem?_modify]at he
  cases hm:m[j]? with
  |none=>rw[hm]at hz;simp at hz
  |some z0=>
   rw[hm]at hz
   simp only[Option.map_some,Option.some.injEq]at hz
   cases X7:es[j]? with
   |none=>rw[X7]at he;split at he<;>simp at he
   |some e0=>
    rw[X7]at he
    by_cases ek:z0.1=k
    ·have:=Xq j z0 hm ek
     subst this
     rw[if_pos ek]at hz;subst hz
     simp only[if_true,Option.map_some,Option.some.injEq]at he
     subst he;exact⟨rfl,hv⟩
    ·rw[if_neg ek]at hz;subst hz
     rw[if_neg (fun e=>by subst e;rw[hi]at hm;cases hm;exact ek rfl)]at he
     simp only[Option.some.injEq]at he
     subst he;exact h.key j _ _ X7 hm
 ·have:(gU m k x).map Prod.fst=m.map Prod.fst:=by
   simp only[gU,hmem,if_true,List.map_map]
   apply List.map_congr_left
   intro z _
   simp only[Function.comp]
   split
   ·rename_i hz;exact hz.symm
   ·rfl
  rw[this];exact h.nd
 ·have:e.born∈(es.modify i fun e=>{e with key:=ke k,val}).toList.map MapEntry.born:=List.mem_map_of_mem he
  rw[hb]at this
  obtain⟨e0,h1,h2⟩:=List.mem_map.1 this
  rw[←h2];exact h.lt e0 h1
theorem bu.more(h:bu ke vr es ck m){k:κ}{x:β}{val:Value}(hk:k∉m.map Prod.fst)(hv:vr val x):bu ke vr (es.push {key:=ke k,val,born:=ck}) (ck+1) (gU m k x):=by
 have hs:gU m k x=m++[(k,x)]:=by unfold gU;rw[if_neg hk]
 rw[hs]
 refine⟨by simp[h.len],fun j e z he hz=>?_,?_,?_,fun e he=>?_⟩
 ·by_cases hj:j<m.length
  ·rw[List.getElem?_append_left hj]at hz
   rw[Array.getElem?_push,if_neg (by rw[h.len];omega)]at he
   exact h.key j _ _ he hz
  ·have SH:=(List.getElem?_eq_some_iff.1 hz).1
   simp only[List.length_append,List.length_cons,List.length_nil]at SH
   have:j=m.length:=by omega
   subst this
   rw[List.getElem?_append_right (Nat.le_refl _)]at hz
   simp at hz;subst hz
   rw[Array.getElem?_push,if_pos h.len.symm]at he
   simp at he;subst he
   exact⟨rfl,hv⟩
 ·rw[List.map_append,List.nodup_append]
  refine⟨h.nd,by simp,fun a ha b hb=>?_⟩
  simp at hb;subst hb;rintro rfl;exact hk ha
 ·rw[Array.toList_push,List.map_append,List.nodup_append]
  refine⟨h.born,by simp,fun a ha b hb=>?_⟩
  simp at hb;subst hb
  obtain⟨e,he,rfl⟩:=List.mem_map.1 ha
  have:=h.lt e he;omega
 ·rw[Array.toList_push,List.mem_append]at he
  rcases he with he|he
  ·have:=h.lt e he;omega
  ·simp at he;subst he;simp
variable {H:Hp} {b:Nat}
theorem bu.hit{kd:TypeDesc}{zero:Value}{ok:Bool}{k:κ}{x:β}{K:Value→Prop}(hk:∀a b,Instr.sameNow kd (ke a) (ke b)=some (decide (a=b)))(h:bu ke vr es ck m)(hm:(b,Obj.map es ck)∈H)(hx:er m k=some x)
 (h1:∀v,vr v x→K (cond ok (.tuple #[v,.bool true]) v)):qi kd zero ok H (.map (some b)) (ke k) K:=by
 rcases h.findNow hk k with⟨i,y,e,g1,g2,g3,g4⟩|⟨g1,g2⟩
 ·have:er m k=some y:=(jj h.nd).2 (List.mem_of_getElem? g2)
  rw[hx]at this;cases this
  exact⟨es,_,.inr ⟨b,ck,rfl,hm⟩,g4,h1 _ g3⟩
 ·rw[kx.2 g1]at hx;cases hx
theorem bu.cg{kd:TypeDesc}{zero:Value}{ok:Bool}{k:κ}{K:Value→Prop}(hk:∀a b,Instr.sameNow kd (ke a) (ke b)=some (decide (a=b)))(h:bu ke vr es ck m)(hm:(b,Obj.map es ck)∈H)(hx:er m k=none)
 (h1:K (cond ok (.tuple #[zero,.bool false]) zero)):qi kd zero ok H (.map (some b)) (ke k) K:=by
 rcases h.findNow hk k with⟨i,y,e,g1,g2,g3,g4⟩|⟨g1,g2⟩
 ·exact absurd (List.mem_map.2 ⟨_,List.mem_of_getElem? g2,rfl⟩) (kx.1 hx)
 ·exact⟨es,_,.inr ⟨b,ck,rfl,hm⟩,g2,h1⟩
theorem bu.cz{kd:TypeDesc}{k:κ}{x:β}{val:Value}{K:Hp→Prop}(hk:∀a b,Instr.sameNow kd (ke a) (ke b)=some (decide (a=b)))(hb:∀a,Instr.sameBits 10000 (ke a) (ke a)=true)(h:bu ke vr es ck m)(hv:vr val x)
 (h1:∀es' eU,bu ke vr es' eU (gU m k x)→∃H',cJ b (.map es ck) (.map es' eU) H H'∧K H'):gi kd H (.map (some b)) (ke k) val K:=by
 rcases h.findNow hk k with⟨i,y,e,g1,g2,g3,g4⟩|⟨g1,g2⟩
 ·refine⟨b,es,ck,_,rfl,g4,fun e' he'=>?_,by rw[h.len];exact(List.getElem?_eq_some_iff.1 g2).1,h1 _ _ (h.put g2 hv)⟩
  rw[(h.key i e' _ he' g2).1];exact hb k
 ·exact⟨b,es,ck,_,rfl,g2,h1 _ _ (h.more g1 hv)⟩
theorem bu.QR{P:Program}{kt:TypeId}{zero:Value}{ok:Bool}{k:κ}{x:β}{K:Value→Prop}(hk:∀a b,FO P kt (ke a) (ke b) (decide (a=b)))(hc:∀a,nX P kt (ke a))(h:bu ke vr es ck m)(hm:(b,Obj.map es ck)∈H)(hx:er m k=some x)
 (h1:∀v,vr v x→K (cond ok (.tuple #[v,.bool true]) v)):kL P kt zero ok H (.map (some b)) (ke k) K:=by
 rcases h.Ak hk k with⟨i,y,e,g1,g2,g3,g4⟩|⟨g1,g2⟩
 ·have:er m k=some y:=(jj h.nd).2 (List.mem_of_getElem? g2)
  rw[hx]at this;cases this
  exact⟨es,_,.inr ⟨b,ck,rfl,hm⟩,hc k,g4,h1 _ g3⟩
 ·rw[kx.2 g1]at hx;cases hx
theorem bu.Gx{P:Program}{kt:TypeId}{zero:Value}{ok:Bool}{k:κ}{K:Value→Prop}(hk:∀a b,FO P kt (ke a) (ke b) (decide (a=b)))(hc:∀a,nX P kt (ke a))(h:bu ke vr es ck m)(hm:(b,Obj.map es ck)∈H)(hx:er m k=none)
 (h1:K (cond ok (.tuple #[zero,.bool false]) zero)):kL P kt zero ok H (.map (some b)) (ke k) K:=by
 rcases h.Ak hk k with⟨i,y,e,g1,g2,g3,g4⟩|⟨g1,g2⟩
 ·exact absurd (List.mem_map.2 ⟨_,List.mem_of_getElem? g2,rfl⟩) (kx.1 hx)
 ·exact⟨es,_,.inr ⟨b,ck,rfl,hm⟩,hc k,g2,h1⟩
theorem bu.WO{P:Program}{kt:TypeId}{k:κ}{x:β}{val:Value}{K:Hp→Prop}(hk:∀a b,FO P kt (ke a) (ke b) (decide (a=b)))(hc:∀a,nX P kt (ke a))(hb:∀a,Instr.sameBits 10000 (ke a) (ke a)=true)(h:bu ke vr es ck m)(hv:vr val x)
 (h1:∀es' eU,bu ke vr es' eU (gU m k x)→∃H',cJ b (.map es ck) (.map es' eU) H H'∧K H'):lJ P kt H (.map (some b)) (ke k) val K:=by
 rcases h.Ak hk k with⟨i,y,e,g1,g2,g3,g4⟩|⟨g1,g2⟩
 ·refine⟨b,es,ck,_,rfl,hc k,g4,fun e' he'=>?_,by rw[h.len];exact(List.getElem?_eq_some_iff.1 g2).1,h1 _ _ (h.put g2 hv)⟩
  rw[(h.key i e' _ he' g2).1];exact hb k
 ·exact⟨b,es,ck,_,rfl,hc k,g2,h1 _ _ (h.more g1 hv)⟩
theorem bu.Mo(h:bu ke vr es ck m)(hm:(b,Obj.map es ck)∈H){K:Value→Prop}(hk:K (.int .i64 m.length)):yw H (.map (some b)) K:=⟨_,rfl,.inr ⟨b,es,ck,rfl,hm,by rw[h.len];exact hk⟩⟩
def dL(es:Array MapEntry)(m:List (κ×β))(seen:Array Nat):List (κ×β):=((es.toList.zip m).filter fun p=> !seen.contains p.1.born).map Prod.snd
omit [DecidableEq κ] in
theorem sV(h:bu ke vr es ck m):dL es m #[]=m:=by
 unfold dL
 rw[List.filter_eq_self.2 (by simp),←List.unzip_snd,List.unzip_zip]
 simpa using h.len
omit [DecidableEq κ] in
theorem y3(h:bu ke vr es ck m){seen:Array Nat}{i:Nat}{e:MapEntry}{x:κ×β}(he:es[i]? =some e)(hx:m[i]? =some x)(hs:e.born∉seen):(dL es m seen).Perm (x::dL es m (seen.push e.born)):=by
 unfold dL
 have hz:(es.toList.zip m)[i]? =some (e,x):=by rw[List.getElem?_zip_eq_some];exact⟨by simpa using he,hx⟩
 obtain⟨A,C,hAC,hlen⟩:∃A C,es.toList.zip m=A++(e,x)::C∧A.length=i:=by
  obtain⟨hlt,hg⟩:=List.getElem?_eq_some_iff.1 hz
  exact⟨(es.toList.zip m).take i,(es.toList.zip m).drop (i+1),by rw[←hg,List.getElem_cons_drop,List.take_append_drop],by simp only[List.length_take];omega⟩
 have UT:(es.toList.zip m).map (fun p=>p.1.born)=es.toList.map MapEntry.born:=by
  have:(es.toList.zip m).map Prod.fst=es.toList:=by rw[←List.unzip_fst,List.unzip_zip];simpa using h.len
  rw[show(fun p:MapEntry×(κ×β)=>p.1.born)=MapEntry.born∘Prod.fst from rfl,←List.map_map,this]
 have g8:=h.born
 rw[←UT,hAC,List.map_append,List.map_cons]at g8
 have XO:=List.perm_middle.nodup_iff.1 g8
 rw[List.nodup_cons,←List.map_append]at XO
 have hne:∀p∈A++C,p.1.born≠e.born:=fun p hp e0=>XO.1 (List.mem_map.2 ⟨p,hp,e0⟩)
 have SM:∀L:List (MapEntry×(κ×β)),(∀p∈L,p.1.born≠e.born)→(L.filter fun p=> !(seen.push e.born).contains p.1.born)=L.filter fun p=> !seen.contains p.1.born:=fun L hL=>by
  apply List.filter_congr
  intro p hp
  have:=hL p hp
  simp[Array.mem_push,this]
 rw[hAC,List.filter_append,List.filter_append,List.filter_cons,List.filter_cons]
 rw[if_pos (by simpa using hs),if_neg (by simp),SM A fun p hp=>hne p (List.mem_append_left _ hp),SM C fun p hp=>hne p (List.mem_append_right _ hp)]
 rw[List.map_append,List.map_append,List.map_cons]
 exact List.perm_middle
omit [DecidableEq κ] in
theorem bu.next{bi bm:Nat}{seen:Array Nat}{K:Value→Hp→Prop}(h:bu ke vr es ck m)(hm:(bm,Obj.map es ck)∈H)(hi:(bi,Obj.mapIter (some bm) ck seen ck)∈H)
 (h1:∀e x seen',e∈es.toList→e.key=ke x.1→vr e.val x.2→(dL es m seen).Perm (x::dL es m seen')→seen'.back?=some e.born→es.find? (·.born==e.born)=some e→
   ∃H',cJ bi (.mapIter (some bm) ck seen ck) (.mapIter (some bm) ck seen' ck) H H'∧K (.tuple #[.bool true,e.key,e.val]) H')
 (h2:dL es m seen=[]→K (.tuple #[.bool false]) H):Ws H (.pointer (some ⟨bi,0,none⟩)) K:=by
 refine⟨bi,some bm,ck,seen,ck,rfl,hi,es,ck,hm,fun e he=>⟨h.lt e he,h.lt e he⟩,fun e he hs=>?_,fun aK=>h2 ?_⟩
 ·obtain⟨i,hi',rfl⟩:=List.mem_iff_getElem.1 he
  have Cn:i<m.length:=by rw[←h.len];simpa using hi'
  have g1:es[i]? =some es.toList[i]:=by rw[←Array.getElem?_toList];exact List.getElem?_eq_getElem hi'
  have g2:m[i]? =some m[i]:=List.getElem?_eq_getElem Cn
  obtain⟨k1,k2⟩:=h.key i _ _ g1 g2
  refine h1 _ m[i] _ he k1 k2 (y3 h g1 g2 hs) (by simp) ?_
  rw[←Array.find?_toList]
  have g8:=h.born
  rw[List.find?_eq_some_iff_append]
  refine⟨by simp,es.toList.take i,es.toList.drop (i+1),by rw[List.getElem_cons_drop,List.take_append_drop],fun a ha=>?_⟩
  simp only[Bool.not_eq_true',beq_eq_false_iff_ne,ne_eq]
  intro e0
  obtain⟨j,hj,rfl⟩:=List.mem_iff_getElem.1 ha
  simp only[List.length_take]at hj
  rw[List.getElem_take]at e0
  have:=(List.getElem_inj (by simpa using h.born) (xs:=es.toList.map MapEntry.born) (i:=j) (j:=i) (h₀:=by rw[List.length_map];omega) (h₁:=by rw[List.length_map];exact hi')).1 (by simpa using e0)
  omega
 ·unfold dL
  rw[List.filter_eq_nil_iff.2,List.map_nil]
  intro p hp
  have:=aK p.1 (List.of_mem_zip hp).1
  simpa using this
end
end Go.Sx
