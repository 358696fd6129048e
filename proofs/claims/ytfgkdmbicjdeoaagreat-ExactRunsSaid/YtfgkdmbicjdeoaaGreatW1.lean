import Derived.WalkKit
import Derived.Still
import Derived.KernelRfl
import Derived.Deep.Quiet
import Derived.OrdersHeld
import Derived.ProofKit
import Derived.OpenShut
import Derived.Below
set_option linter.unusedVariables false
set_option linter.unusedSimpArgs false
set_option linter.unusedSectionVars false
theorem zM{α:Type _}{x:α}{l:List α}(h:x∈l:=by repeat (first|assumption|exact List.Mem.head _|apply List.Mem.tail|apply List.mem_append_right)):x∈l:=h
theorem zS{α:Type _}{A B:List α}(h:∀x∈A,x∈B:=by intro _ h;repeat (first|exact h|apply List.mem_cons_of_mem|apply List.mem_append_right)):∀x∈A,x∈B:=h
namespace Go.Sx
open Go
abbrev Hp:=List (Nat×Obj)
structure Gh where
 w:World
 fr:Hp
def Gh.add(g:Gh)(F:Hp):Gh:=⟨g.w,F++g.fr⟩
structure Own(g:Gh)(H:Hp)(w:World):Prop where
 os:w.os=g.w.os
 out:w.output=g.w.output
 tape:w.tape=g.w.tape
 nd:((H++g.fr).map Prod.fst).Nodup
 sR:∀x,x∈H++g.fr→w.heap[x.1]? =some x.2
theorem Own.has{g:Gh}{H:Hp}{w:World}(h:Own g H w)(x:Nat×Obj)(hx:x∈H):w.heap[x.1]? =some x.2:=h.sR x (List.mem_append_left _ hx)
theorem Own.perm{g:Gh}{H H':Hp}{w:World}(h:Own g H w)(p:H.Perm H'):Own g H' w:=
 ⟨h.os,h.out,h.tape,((p.append_right _).map _).nodup_iff.1 h.nd,fun x hx=>h.sR x ((p.append_right _).mem_iff.2 hx)⟩
theorem Own.right{g:Gh}{A B:Hp}{w:World}(h:Own g (A++B) w):Own g B w:=
 ⟨h.os,h.out,h.tape,by have:=h.nd;rw[List.append_assoc,List.map_append]at this;exact(List.nodup_append.1 this).2.1,fun x hx=>h.sR x (by rw[List.append_assoc];exact List.mem_append_right _ hx)⟩
theorem Own.left{g:Gh}{A B:Hp}{w:World}(h:Own g (A++B) w):Own g A w:=Own.right (A:=B) (h.perm List.perm_append_comm)
theorem Own.tail{g:Gh}{x:Nat×Obj}{B:Hp}{w:World}(h:Own g (x::B) w):Own g B w:=Own.right (A:=[x]) h
theorem Own.fk{g:Gh}{A F:Hp}{w:World}:Own g (A++F) w↔Own (g.add F) A w:=by
 constructor
 ·intro h;exact⟨h.os,h.out,h.tape,by have:=h.nd;rw[List.append_assoc]at this;exact this,fun x hx=>h.sR x (by rw[List.append_assoc];exact hx)⟩
 ·intro h;exact⟨h.os,h.out,h.tape,by have:=h.nd;rw[List.append_assoc];exact this,fun x hx=>h.sR x (by rw[List.append_assoc]at hx;exact hx)⟩
def aJ(H H':Hp):Prop:=∀g w,Own g H w→Own g H' w
theorem aJ.refl(H:Hp):aJ H H:=fun _ _ h=>h
theorem aJ.trans{A B C:Hp}(h:aJ A B)(h':aJ B C):aJ A C:=fun g w x=>h' g w (h g w x)
theorem aJ.perm{A B:Hp}(p:A.Perm B):aJ A B:=fun _ _ h=>h.perm p
theorem aJ.right{A B:Hp}:aJ (A++B) B:=fun _ _ h=>h.right
theorem aJ.left{A B:Hp}:aJ (A++B) A:=fun _ _ h=>h.left
theorem aJ.tail{x:Nat×Obj}{B:Hp}:aJ (x::B) B:=fun _ _ h=>h.tail
theorem aJ.frame{A B:Hp}(h:aJ A B)(F:Hp):aJ (A++F) (B++F):=fun _ _ o=>Own.fk.2 (h _ _ (Own.fk.1 o))
theorem aJ.cv{A B:Hp}(h:aJ A B)(F:Hp):aJ (F++A) (F++B):=(aJ.perm List.perm_append_comm).trans ((h.frame F).trans (.perm List.perm_append_comm))
inductive cA(b:Nat)(o o':Obj):Hp→Hp→Prop
 |head (R:Hp):cA b o o' ((b,o)::R) ((b,o')::R)
 |tail {x:Nat×Obj} {R R':Hp} (h:cA b o o' R R'):cA b o o' (x::R) (x::R')
theorem cA.mem{b:Nat}{o o':Obj}{H H':Hp}(h:cA b o o' H H'):(b,o)∈H:=by
 induction h with
 |head R=>simp
 |tail _ ih=>simp[ih]
theorem cA.keys{b:Nat}{o o':Obj}{H H':Hp}(h:cA b o o' H H'):H'.map Prod.fst=H.map Prod.fst:=by
 induction h with
 |head R=>simp
 |tail _ ih=>simp[ih]
theorem cA.Ed{b:Nat}{o o':Obj}{H H':Hp}(h:cA b o o' H H')(nd:(H.map Prod.fst).Nodup):∀x∈H',x=(b,o')∨(x∈H∧x.1≠b):=by
 induction h with
 |head R=>
  intro x hx
  rcases List.mem_cons.1 hx with rfl|hx
  ·exact .inl rfl
  ·refine .inr ⟨by simp[hx],fun e=>?_⟩
   simp only[List.map_cons,List.nodup_cons]at nd
   exact nd.1 (e▸List.mem_map_of_mem hx)
 | @tail y R R' h ih=>
  intro x hx
  simp only[List.map_cons,List.nodup_cons]at nd
  rcases List.mem_cons.1 hx with rfl|hx
  ·refine .inr ⟨by simp,fun e=>?_⟩
   exact nd.1 (e▸List.mem_map_of_mem (f:=Prod.fst) h.mem)
  ·rcases ih nd.2 x hx with h1|h1
   ·exact .inl h1
   ·exact .inr ⟨by simp[h1.1],h1.2⟩
theorem cA.append{b:Nat}{o o':Obj}{C C':Hp}(h:cA b o o' C C')(B:Hp):cA b o o' (C++B) (C'++B):=by
 induction h with
 |head R=>exact .head _
 |tail _ ih=>exact .tail ih
theorem Own.bS{g:Gh}{H H':Hp}{w w':World}{b:Nat}{o o':Obj}(h:Own g H w)(u:cA b o o' H H')
 (hos:w'.os=w.os)(hout:w'.output=w.output)(HZ:w'.tape=w.tape)
 (hb:w'.heap[b]? =some o')(hr:∀c,c≠b→w'.heap[c]? =w.heap[c]?):Own g H' w':=
 ⟨hos.trans h.os,hout.trans h.out,HZ.trans h.tape,by rw[(u.append g.fr).keys];exact h.nd,fun x hx=>by
  rcases(u.append g.fr).Ed h.nd x hx with rfl|⟨h1,h2⟩
  ·exact hb
  ·rw[hr _ h2];exact h.sR x h1⟩
theorem Own.same{g:Gh}{H:Hp}{w w':World}(h:Own g H w)(hos:w'.os=w.os)(hout:w'.output=w.output)(HZ:w'.tape=w.tape)
 (hr:∀(c:Nat) (o:Obj),w.heap[c]? =some o→w'.heap[c]? =some o):Own g H w':=
 ⟨hos.trans h.os,hout.trans h.out,HZ.trans h.tape,h.nd,fun x hx=>hr _ _ (h.sR x hx)⟩
theorem Own.drew{g:Gh}{H:Hp}{w:World}(h:Own g H w):Own g H w.drew:=h.same rfl rfl rfl fun _ _ h=>h
theorem Own.tY{g:Gh}{H:Hp}{w:World}(h:Own g H w):Own g H {w with drawn:=w.drawn+1}:=h.drew
theorem Own.TM{g:Gh}{H:Hp}{w:World}(h:Own g H w){x:Nat×Obj}(hx:x∈H++g.fr):x.1<w.heap.size:=by
 have:=h.sR x hx
 exact(Array.getElem?_eq_some_iff.1 this).1
theorem Own.lt{g:Gh}{H:Hp}{w:World}(h:Own g H w){x:Nat×Obj}(hx:x∈H):x.1<w.heap.size:=h.TM (List.mem_append_left _ hx)
theorem Own.IZ{g:Gh}{H:Hp}{w:World}(h:Own g H w):w.heap.size∉(H++g.fr).map Prod.fst:=by
 intro hm
 obtain⟨x,hx,e⟩:=List.mem_map.1 hm
 have:=h.TM hx
 omega
theorem Own.fresh{g:Gh}{H:Hp}{w:World}(h:Own g H w):w.heap.size∉H.map Prod.fst:=fun hm=>h.IZ (by rw[List.map_append];exact List.mem_append_left _ hm)
theorem Own.alloc{g:Gh}{H:Hp}{w:World}(h:Own g H w)(o:Obj):Own g ((w.heap.size,o)::H) (w.alloc o):=by
 refine⟨h.os,h.out,h.tape,?_,?_⟩
 ·rw[List.cons_append,List.map_cons,List.nodup_cons];exact⟨h.IZ,h.nd⟩
 ·intro x hx
  rw[List.cons_append]at hx
  rcases List.mem_cons.1 hx with rfl|hx
  ·show(w.heap.push o)[w.heap.size]? =some o
   rw[Array.getElem?_push,if_pos rfl]
  ·have:=h.sR x hx
   have hl:=h.TM hx
   show(w.heap.push o)[x.1]? =some x.2
   rw[Array.getElem?_push,if_neg (by omega)]
   exact this
theorem Own.cell{g:Gh}{H:Hp}{w:World}(h:Own g H w){b:Nat}{c:Array Value}{T:TypeId}{fz:Nat×Nat}(hm:(b,Obj.cells c T fz)∈H)(off:Nat):
  w.cell? ⟨b,off,none⟩=c[off]? :=by
 have:=h.has _ hm
 simp only[World.cell?]
 simp only at this
 rw[this]
 rfl
theorem Own.frozen{g:Gh}{H:Hp}{w:World}(h:Own g H w){b:Nat}{c:Array Value}{T:TypeId}(hm:(b,Obj.cells c T (0,0))∈H)(off:Nat)(sp:Option Nat):
  w.frozen? ⟨b,off,sp⟩=false:=by
 have:=h.has _ hm
 simp only at this
 simp[World.frozen?,this]
def gO(c:Array Value)(off:Nat):List Value→Array Value
 | []=>c
 |v::r=>gO (c.setIfInBounds off v) (off+1) r
theorem Own.setCell{g:Gh}{H:Hp}{w:World}(h:Own g H w){b:Nat}{c:Array Value}{T:TypeId}{fz:Nat×Nat}{H':Hp}(off:Nat)(v:Value)
 (u:cA b (.cells c T fz) (.cells (c.setIfInBounds off v) T fz) H H'):Own g H' (w.setCell ⟨b,off,none⟩ v):=by
 refine h.bS u rfl rfl rfl ?_ ?_
 ·have:=h.has _ u.mem
  simp only at this
  simp[World.setCell,Array.getElem?_modify,this]
 ·intro d hd
  simp only[World.setCell]
  rw[Array.getElem?_modify,if_neg (fun e=>hd (Eq.symm e))]
theorem cA.re{b:Nat}{o o':Obj}{H H':Hp}(u:cA b o o' H H')(o₁:Obj):∃H₁,cA b o o₁ H H₁∧cA b o₁ o' H₁ H':=by
 induction u with
 |head R=>exact⟨_,.head R,.head R⟩
 |tail _ ih=>obtain⟨H₁,u1,u2⟩:=ih;exact⟨_,.tail u1,.tail u2⟩
theorem eO{P:Program}{g:Gh}{b:Nat}{T:TypeId}(off:Nat):∀(l:List Value) (i:Nat) (c:Array Value) (H H':Hp) (w:World),Own g H w→
  cA b (.cells c T (0,0)) (.cells (gO c (off+i) l) T (0,0)) H H'→(∀v∈l,v.oneCell'=true)→off+i+l.length≤c.size→
  ∃w',(storeCells ⟨b,off,none⟩ l i).run P w=.ok () w'∧Own g H' w'
 | [],i,c,H,H',w,h,u,_,_=>by
  refine⟨w,rfl,?_⟩
  exact h.bS u rfl rfl rfl (h.has _ u.mem) fun _ _=>rfl
 |v::r,i,c,H,H',w,h,u,h1,hs=>by
  obtain⟨H₁,u1,u2⟩:=u.re (.cells (c.setIfInBounds (off+i) v) T (0,0))
  have gS:=h.setCell (off+i) v u1
  simp only[List.length_cons]at hs
  obtain⟨w',hr,ho⟩:=eO (P:=P) off r (i+1) (c.setIfInBounds (off+i) v) H₁ H' _ gS (by simpa[gO,Nat.add_assoc]using u2) (fun x hx=>h1 x (by simp[hx])) (by simp;omega)
  refine⟨w',?_,ho⟩
  have hc:w.cell? ⟨b,off+i,none⟩=some c[off+i]:=by
   rw[h.cell u.mem,Array.getElem?_eq_getElem]
  have hf:=h.frozen u.mem (off+i) none
  have ha:Addr.add ⟨b,off,none⟩ i=⟨b,off+i,none⟩:=Addr.add_lit _ _ _
  simp only[storeCells,Sem.run_bind,ha,run_store P w _ v .plain (h1 v (by simp)),hc,hf,Bool.false_eq_true,if_false,Result.andThen_ok,hr]
theorem ij{P:Program}{g:Gh}{H:Hp}{w:World}(h:Own g H w){b:Nat}{c:Array Value}{T:TypeId}{fz:Nat×Nat}(hm:(b,Obj.cells c T fz)∈H)
 (off n:Nat)(hs:off+n≤c.size):(loadCells ⟨b,off,none⟩ n).run P w=.ok (c.extract off (off+n)) w:=by
 have hl:((c.extract off (off+n)).toList).length=n:=by simp;omega
 have:=run_loadCells_list (P:=P) w ⟨b,off,none⟩ (c.extract off (off+n)).toList (fun j v hj=>by
  rw[Addr.add_lit,h.cell hm]
  have Pq:j<n:=by
   have:=(List.getElem?_eq_some_iff.1 hj).1
   omega
  rw[Array.getElem?_toList,Array.getElem?_extract]at hj
  rw[if_pos (by omega)]at hj
  exact hj)
 rw[hl]at this
 exact this
end Go.Sx
namespace Go.Sx
open Go
abbrev Fr:=Nat→Value
def bS(fr:Fr)(d:Option Nat)(v:Value):Fr:=
 match d with
 |none=>fr
 |some d=>fun s=>cond (Nat.beq s d) v (fr s)
def ev(fr:Fr):Operand→Value
 | .tmp t=>fr t
 | .const v=>v
 | .global g=>.pointer (some ⟨g,0,none⟩)
 | .func f=>.func (.func f) #[] #[]
def dA(n:Nat):Option Nat→Bool
 |none=>true
 |some d=>Nat.blt d n
structure ca(ds:List Deferred)(n:Nat)(a:Act)(fr:Fr):Prop where
 defers:a.defers=ds
 size:a.tmps.size=n
 get:∀s,a.tmps.getD s undef=fr s
theorem ca.eval{ds:List Deferred}{n:Nat}{a:Act}{fr:Fr}(h:ca ds n a fr):a.eval=ev fr:=by
 funext x
 cases x<;>simp only[Act.eval,ev]
 exact h.get _
theorem ca.put{ds:List Deferred}{n:Nat}{a:Act}{fr:Fr}(h:ca ds n a fr){d:Option Nat}(hd:dA n d=true)(v:Value):ca ds n (a.put d v) (bS fr d v):=by
 cases d with
 |none=>exact h
 |some d=>
  have hlt:d<n:=by simpa[dA,Nat.blt_eq]using hd
  refine⟨h.defers,by simp[Act.put,h.size],fun s=>?_⟩
  simp only[Act.put,bS]
  have hs:=h.size
  by_cases e:s=d
  ·subst e;simp[hs,hlt]
  ·have e':d≠s:=fun x=>e x.symm
   have hb:Nat.beq s d=false:=by
    cases hh:Nat.beq s d
    ·rfl
    ·exact absurd (Nat.eq_of_beq_eq_true hh) e
   rw[hb]
   simp only[cond_false]
   have:=h.get s
   simpa[Array.getD_eq_getD_getElem?,Array.getElem?_setIfInBounds_ne e']using this
def bZ(P:Program)(g:Gh)(f:FuncId)(args:Array Value)(H:Hp)(R:Ending→Hp→Prop):Prop:=
 ∀w,Own g H w→Calls P f args w fun e w'=>∃H',Own g H' w'∧R e H'
theorem bZ.mono{P:Program}{g:Gh}{f:FuncId}{args:Array Value}{H:Hp}{R R':Ending→Hp→Prop}(h:bZ P g f args H R)(hr:∀e H',R e H'→R' e H'):
  bZ P g f args H R':=fun w hw=>(h w hw).mono fun e w' ⟨H',o,r⟩=>⟨H',o,hr _ _ r⟩
theorem bZ.pre{P:Program}{g:Gh}{f:FuncId}{args:Array Value}{H H':Hp}{R:Ending→Hp→Prop}(h:bZ P g f args H' R)(he:aJ H H'):
  bZ P g f args H R:=fun w hw=>h w (he _ _ hw)
theorem bZ.post{P:Program}{g:Gh}{f:FuncId}{args:Array Value}{H:Hp}{R R':Ending→Hp→Prop}(h:bZ P g f args H R)
 (hr:∀e H',R e H'→∃jk,aJ H' jk∧R' e jk):bZ P g f args H R':=fun w hw=>(h w hw).mono fun e w' ⟨H',o,r⟩=>
 let ⟨jk,en,r'⟩:=hr _ _ r;⟨jk,en _ _ o,r'⟩
def Sj(K:Value→Hp→Prop)(KP:List PanicEntry→Hp→Prop):Ending→Hp→Prop
 | .returned v,H=>K v H
 | .panicked ch,H=>KP ch H
 | .outgrown,_=>False
def kX(P:Program)(g:Gh)(K:Value→Hp→Prop)(KP:List PanicEntry→Hp→Prop):Result Next→Prop
 | .ok (.value v) w=>∃H,Own g H w∧K v H
 | .ok .skip w=>∃H,Own g H w∧K undef H
 | .ok (.enter f args) w=>Calls P f args w fun e w'=>∃H,Own g H w'∧Sj K KP e H
 | .halt (.panic v) w=>∃H,Own g H w∧KP [{v,recovered:=false}] H
 |_=>False
def kU(P:Program)(g:Gh)(o:Oper)(ρ:Operand→Value)(H:Hp)(K:Value→Hp→Prop)(KP:List PanicEntry→Hp→Prop):Prop:=
 ∀w,Own g H w→kX P g K KP ((execOp ρ o).run P w)
def dP(H:Hp)(o:Obj)(k:Nat→Hp→Prop):Prop:=∀b,b∉H.map Prod.fst→k b ((b,o)::H)
def ay(c a b:Value)(k:Value→Prop):Prop:=∃t,c=.bool t∧k (cond t a b)
def Ld(H:Hp)(p:Value)(k:Value→Prop):Prop:=
 ∃b off c T fz v,p=.pointer (some ⟨b,off,none⟩)∧(b,Obj.cells c T fz)∈H∧c[off]? =some v∧k v
def av(n:Nat)(H:Hp)(p:Value)(k:Value→Prop):Prop:=
 ∃b off c T fz,p=.pointer (some ⟨b,off,none⟩)∧(b,Obj.cells c T fz)∈H∧off+n≤c.size∧k (.agg (c.extract off (off+n)))
def St(n:Nat)(H:Hp)(p x:Value)(k:Hp→Prop):Prop:=
 ∃b off c T H',p=.pointer (some ⟨b,off,none⟩)∧x.cells.size=n∧off+n≤c.size∧(∀v∈x.cells.toList,v.oneCell'=true)∧
  cA b (.cells c T (0,0)) (.cells (gO c off x.cells.toList) T (0,0)) H H'∧k H'
inductive BK|num|bool|ptr|slice|map|func|str|other
def vn:TypeDesc→BK
 | .bool=>.bool
 | .int _=>.num
 | .pointer _=>.ptr
 | .slice _=>.slice
 | .map _ _=>.map
 | .func _ _ _=>.func
 | .string=>.str
 |_=>.other
def iE(op:BinOp)(k:IntKind)(a b:Int):Option Value:=
 match op with
 | .add=>some (.int k (k.wrap (a+b)))
 | .sub=>some (.int k (k.wrap (a-b)))
 | .mul=>some (.int k (k.wrap (a*b)))
 | .quo=>if b=0 then none else some (.int k (k.wrap (a.tdiv b)))
 | .rem=>if b=0 then none else some (.int k (a.tmod b))
 | .and=>some (.int k (bits .and k a b))
 | .or=>some (.int k (bits .or k a b))
 | .xor=>some (.int k (bits .xor k a b))
 | .andNot=>some (.int k (bits .andNot k a b))
 | .eql=>some (.bool (a==b))
 | .neq=>some (.bool (a !=b))
 | .lss=>some (.bool (decide (a<b)))
 | .leq=>some (.bool (decide (a≤b)))
 | .gtr=>some (.bool (decide (b<a)))
 | .geq=>some (.bool (decide (b≤a)))
 |_=>none
def eS(kd:BK)(op:BinOp)(x y:Value):Option Value:=
 match x with
 | .int k a=>
  match y with
  | .int k' b=>
   match op with
   | .shl=>if b<0 then none else some (.int k (k.wrap (a*2^(min b.toNat k.bits))))
   | .shr=>if b<0 then none else some (.int k (a.fdiv (2^(min b.toNat k.bits))))
   |op=>if k=k' then iE op k a b else none
  |_=>none
 | .bool a=>
  match kd,op,y with
  | .bool,.eql,.bool b=>some (.bool (a==b))
  | .bool,.neq,.bool b=>some (.bool (!(a==b)))
  |_,_,_=>none
 | .string a=>
  match op,y with
  | .eql,.string b=>some (.bool (a.toList==b.toList))
  | .neq,.string b=>some (.bool (!(a.toList==b.toList)))
  |_,_=>none
 | .pointer a=>
  match kd,op,y with
  | .ptr,.eql,.pointer b=>if a.isNone∨b.isNone then some (.bool (a.isNone&&b.isNone))else none
  | .ptr,.neq,.pointer b=>if a.isNone∨b.isNone then some (.bool (!(a.isNone&&b.isNone)))else none
  |_,_,_=>none
 | .slice a n c=>
  match kd,op,y with
  | .slice,.eql,.slice b _ _=>if a.isNone∨b.isNone then some (.bool (a.isNone&&b.isNone))else none
  | .slice,.neq,.slice b _ _=>if a.isNone∨b.isNone then some (.bool (!(a.isNone&&b.isNone)))else none
  |_,_,_=>none
 | .map a=>
  match kd,op,y with
  | .map,.eql,.map b=>if a.isNone∨b.isNone then some (.bool (a.isNone&&b.isNone))else none
  | .map,.neq,.map b=>if a.isNone∨b.isNone then some (.bool (!(a.isNone&&b.isNone)))else none
  |_,_,_=>none
 |_=>none
def aa(kd:BK)(op:BinOp)(x y:Value)(k:Value→Prop):Prop:=∃v,eS kd op x y=some v∧k v
def Sz(op:UnOp)(x:Value):Option Value:=
 match op,x with
 | .neg,.int k n=>some (.int k (k.wrap (0-n)))
 | .not,.bool b=>some (.bool !b)
 | .xor,.int k n=>some (.int k (bits .xor k (if k.signed then-1 else k.max) n))
 |_,_=>none
def Un(op:UnOp)(x:Value)(k:Value→Prop):Prop:=∃v,Sz op x=some v∧k v
def bf(kd:IntKind)(x:Value)(k:Value→Prop):Prop:=∃j n,x=.int j n∧k (.int kd (kd.wrap n))
def ag(off:Nat)(x:Value)(k:Value→Prop):Prop:=∃b o,x=.pointer (some ⟨b,o,none⟩)∧k (.pointer (some ⟨b,o+off,none⟩))
def yA(off:Nat)(x:Value)(k:Value→Prop):Prop:=∃cs v,x=.agg cs∧cs[off]? =some v∧k v
def Mf(off n:Nat)(x:Value)(k:Value→Prop):Prop:=∃cs,x=.agg cs∧k (.agg (cs.extract off (off+n)))
def aj(size:Nat)(x ix:Value)(k:Value→Prop):Prop:=
 ∃b o n c kd i,x=.slice (some ⟨b,o,none⟩) n c∧ix=.int kd i∧0≤i∧i<(n:Int)∧k (.pointer (some ⟨b,o+i.toNat*size,none⟩))
def ye(len size:Nat)(x ix:Value)(k:Value→Prop):Prop:=
 ∃b o kd i,x=.pointer (some ⟨b,o,none⟩)∧ix=.int kd i∧0≤i∧i<(len:Int)∧k (.pointer (some ⟨b,o+i.toNat*size,none⟩))
def KX:Option Value→Option Int
 |none=>some 0
 |some (.int _ n)=>some n
 |_=>none
def EA(len:Nat):Option Value→Option Int
 |none=>some len
 |some (.int _ n)=>some n
 |_=>none
def di(size:Nat)(x:Value)(lo hi:Option Value)(k:Value→Prop):Prop:=
 ∃a n c l h,x=.slice a n c∧KX lo=some l∧EA n hi=some h∧0≤l∧l≤h∧h≤(c:Int)∧
  k (.slice (if c=l.toNat then a else a.map (·.add (l.toNat*size))) (h.toNat-l.toNat) (c-l.toNat))
def Ext(i:Nat)(x:Value)(k:Value→Prop):Prop:=∃vs v,x=.tuple vs∧vs[i]? =some v∧k v
def aA(x:Value)(k:Value→Prop):Prop:=∃a n c,x=.slice a n c∧k (.int .i64 n)
def vy(H:Hp)(x:Value)(k:Value→Prop):Prop:=
 ∃m,x=.map m∧((m=none∧k (.int .i64 0))∨∃b es clock,m=some b∧(b,Obj.map es clock)∈H∧k (.int .i64 es.size))
def Cells(H:Hp)(base:Option Addr)(n:Nat)(cs:Array Value):Prop:=
 match base with
 |none=>cs=#[]
 |some a=>(n=0∧cs=#[])∨(a.spot=none∧∃c T fz,(a.block,Obj.cells c T fz)∈H∧a.off+n≤c.size∧cs=c.extract a.off (a.off+n))
def App(P:Program)(elem size bytes:Nat)(zero:Value)(H:Hp)(s x:Value)(k:Value→Hp→Prop):Prop:=
 ∃base n cap xb m xc olds news,s=.slice base n cap∧x=.slice xb m xc∧Cells H base (n*size) olds∧Cells H xb (m*size) news∧
  news.size=m*size∧olds.size=n*size∧(∀v∈news.toList,v.oneCell'=true)∧
  (n+m≤cap→match base with
   |none=>k (.slice none (n+m) cap) H
   |some a=>∃c T H',a.spot=none∧a.off+n*size+m*size≤c.size∧cA a.block (.cells c T (0,0)) (.cells (gO c (a.off+n*size) news.toList) T (0,0)) H H'∧k (.slice (some a) (n+m) cap) H')∧
  (cap<n+m→(n+m)*bytes≤140737488355328∧(n+m:Nat)≤9223372036854775807∧∀eP,n+m≤eP→
   dP H (.cells (olds++news++Builtin.zeroCells zero.cells (eP-(n+m))) elem (0,0)) fun b H'=>∃jk,aJ H' jk∧k (.slice (some ⟨b,0,none⟩) (n+m) eP) jk)
def br(elem size bytes:Nat)(zero:Value)(H:Hp)(l c:Value)(k:Value→Hp→Prop):Prop:=
 ∃kl kc ln cn,l=.int kl (ln:Nat)∧c=.int kc (cn:Nat)∧ln≤cn∧(cn:Int)≤9223372036854775807∧cn*bytes≤281474976710656∧
  dP H (.cells (madeCells zero.cells (cn*size)) elem (0,0)) fun b H'=>k (.slice (some ⟨b,0,none⟩) ln cn) H'
def mD(H:Hp)(k:Value→Hp→Prop):Prop:=dP H (.map #[] 0) fun b H'=>k (.map (some b)) H'
def Dw(H:Hp)(m:Value)(es:Array MapEntry):Prop:=(m=.map none∧es=#[])∨∃b clock,m=.map (some b)∧(b,Obj.map es clock)∈H
def jY(kd:TypeDesc)(zero:Value)(ok:Bool)(H:Hp)(m key:Value)(k:Value→Prop):Prop:=
 ∃es r,Dw H m es∧Instr.findNow kd key es.toList 0=some r∧
  k (match r with
   |some (_,v)=>cond ok (.tuple #[v,.bool true]) v
   |none=>cond ok (.tuple #[zero,.bool false]) zero)
def ez(kd:TypeDesc)(H:Hp)(m key val:Value)(k:Hp→Prop):Prop:=
 ∃b es clock r,m=.map (some b)∧Instr.findNow kd key es.toList 0=some r∧
  match r with
  |some (i,_)=>(∀e,es[i]? =some e→Instr.sameBits 10000 e.key key=true)∧i<es.size∧∃H',cA b (.map es clock) (.map (es.modify i fun e=>{e with key,val}) clock) H H'∧k H'
  |none=>∃H',cA b (.map es clock) (.map (es.push {key,val,born:=clock}) (clock+1)) H H'∧k H'
def si(kd:TypeDesc)(H:Hp)(m key:Value)(k:Hp→Prop):Prop:=
 (m=.map none∧k H)∨∃b es clock r,m=.map (some b)∧Instr.findNow kd key es.toList 0=some r∧
  match r with
  |some (i,_)=>∃H',cA b (.map es clock) (.map (es.eraseIdxIfInBounds i) clock) H H'∧k H'
  |none=>(b,Obj.map es clock)∈H∧k H
def cC(P:Program)(f:FuncId):Bool:=
 match P.funcs[f]? with
 |none=>false
 |some fn=> !(fn.name== "runtime.NumGoroutine") &&fn.body.isSome
def ae(P:Program)(g:Gh)(f:FuncId)(args:Array Value)(H:Hp)(K:Value→Hp→Prop)(KP:List PanicEntry→Hp→Prop):Prop:=
 bZ P g f args H (Sj K KP)
def gk(P:Program)(g:Gh)(fv:Value)(args:Array Value)(H:Hp)(K:Value→Hp→Prop)(KP:List PanicEntry→Hp→Prop):Prop:=
 ∃f first captured,fv=.func (.func f) first captured∧cC P f=true∧ae P g f (first++args++captured) H K KP
def Ca(P:Program)(kt:TypeId)(x y:Value)(b:Bool):Prop:=∀w,(Op.equal kt x y).run P w=.ok b w
def mh(P:Program)(kt:TypeId)(x:Value):Prop:=∀e w,(Instr.checkKey e 10000 kt x).run P w=.ok () w
def jU(P:Program)(kt:TypeId)(key:Value):List MapEntry→Nat→Option (Nat×Value)→Prop
 | [],_,r=>r=none
 |e::es,i,r=>∃b,Ca P kt key e.key b∧(b=true→r=some (i,e.val))∧(b=false→jU P kt key es (i+1) r)
def jj(P:Program)(kt:TypeId)(zero:Value)(ok:Bool)(H:Hp)(m key:Value)(k:Value→Prop):Prop:=
 ∃es r,Dw H m es∧mh P kt key∧jU P kt key es.toList 0 r∧
  k (match r with
   |some (_,v)=>cond ok (.tuple #[v,.bool true]) v
   |none=>cond ok (.tuple #[zero,.bool false]) zero)
def jN(P:Program)(kt:TypeId)(H:Hp)(m key val:Value)(k:Hp→Prop):Prop:=
 ∃b es clock r,m=.map (some b)∧mh P kt key∧jU P kt key es.toList 0 r∧
  match r with
  |some (i,_)=>(∀e,es[i]? =some e→Instr.sameBits 10000 e.key key=true)∧i<es.size∧∃H',cA b (.map es clock) (.map (es.modify i fun e=>{e with key,val}) clock) H H'∧k H'
  |none=>∃H',cA b (.map es clock) (.map (es.push {key,val,born:=clock}) (clock+1)) H H'∧k H'
def oq(P:Program)(kt:TypeId)(H:Hp)(m key:Value)(k:Hp→Prop):Prop:=
 mh P kt key∧((m=.map none∧k H)∨∃b es clock r,m=.map (some b)∧jU P kt key es.toList 0 r∧
  match r with
  |some (i,_)=>∃H',cA b (.map es clock) (.map (es.eraseIdxIfInBounds i) clock) H H'∧k H'
  |none=>(b,Obj.map es clock)∈H∧k H)
def Sf(H:Hp)(x:Value)(k:Value→Hp→Prop):Prop:=
 (x=.map none∧dP H (.mapIter none 0 #[] 0) fun b H'=>k (.pointer (some ⟨b,0,none⟩)) H')∨
 ∃m es clock,x=.map (some m)∧(m,Obj.map es clock)∈H∧dP H (.mapIter (some m) clock #[] clock) fun b H'=>k (.pointer (some ⟨b,0,none⟩)) H'
def PF(H:Hp)(it:Value)(k:Value→Hp→Prop):Prop:=
 ∃b mo since seen last,it=.pointer (some ⟨b,0,none⟩)∧(b,Obj.mapIter mo since seen last)∈H∧
  match mo with
  |none=>k (.tuple #[.bool false]) H
  |some m=>∃es clock,(m,Obj.map es clock)∈H∧(∀e∈es.toList,e.born<since∧e.born<last)∧
   (∀e∈es.toList,e.born∉seen→∃H',cA b (.mapIter (some m) since seen last) (.mapIter (some m) since (seen.push e.born) clock) H H'∧k (.tuple #[.bool true,e.key,e.val]) H')∧
   ((∀e∈es.toList,e.born∈seen)→k (.tuple #[.bool false]) H)
def JG(H:Hp)(it:Value)(k:Value→Prop):Prop:=
 ∃b m since seen stamp clock es e,it=.pointer (some ⟨b,0,none⟩)∧(b,Obj.mapIter (some m) since seen clock)∈H∧seen.back?=some stamp∧(m,Obj.map es clock)∈H∧es.find? (·.born==stamp)=some e∧k (.tuple #[e.key,e.val])
def O3(x y:Value)(k:Value→Prop):Prop:=∃kd a b,x=.int kd a∧y=.int kd b∧k (.int kd (if b>a then b else a))
def Si(x y:Value)(k:Value→Prop):Prop:=∃kd a b,x=.int kd a∧y=.int kd b∧k (.int kd (if b<a then b else a))
def iI(H:Hp)(x:Value)(k:Value→Prop):Prop:=
 ∃base n c,∃bs:List UInt8,x=.slice base n c∧Cells H base n ((bs.map fun b=>Value.int .u8 b.toNat).toArray)∧bs.length=n∧k (.string ⟨bs.toArray⟩)
def Nm(x i:Value)(k:Value→Prop):Prop:=∃s kd j b,x=.string s∧i=.int kd j∧0≤j∧s[j.toNat]? =some b∧k (.int .u8 b.toNat)
def O4(x:Value)(k:Value→Prop):Prop:=∃s,x=.string s∧k (.int .i64 s.size)
def plainKey:TypeDesc→Bool
 | .int _| .string| .bool=>true
 |_=>false
def cr:TypeDesc→Bool
 | .struct _| .array _ _=>true
 |_=>false
end Go.Sx
namespace Go.Sx
open Go
section
variable {P:Program} {g:Gh} {H:Hp} {K:Value→Hp→Prop} {KP:List PanicEntry→Hp→Prop}
theorem dU{t:TypeId}{i:TypeInfo}{z:Value}(hi:P.info? t=some i)(hz:i.zero=some z)(w:World):(zeroValue t).run P w=.ok z w:=by
 simp[zeroValue,typeInfo,hi,hz]
theorem k6{t:TypeId}{d:TypeDesc}(hd:P.underlying t=some d)(w:World):(isAgg t).run P w=.ok (cr d) w:=by
 simp only[isAgg,Sem.run_bind,run_underlying hd,Result.andThen_ok]
 cases d<;>rfl
theorem run_sizeOf{t:TypeId}{i:TypeInfo}(hi:P.info? t=some i)(w:World):(sizeOf t).run P w=.ok i.size w:=by
 simp[sizeOf,typeInfo,hi]
theorem Ld.run{p:Value}{k:Value→Prop}(h:Ld H p k){w:World}(hw:Own g H w){t:TypeId}{d:TypeDesc}(hd:P.underlying t=some d)(ha:cr d=false):
  ∃v,(Instr.loadAt t p).run P w=.ok v w∧k v:=by
 obtain⟨b,off,c,T,fz,v,rfl,hm,hc,hk⟩:=h
 refine⟨v,?_,hk⟩
 have:=hw.cell hm off
 rw[hc]at this
 simp only[Instr.loadAt,Instr.sureAddr,loadVar,Sem.run_bind,Sem.run_pure,Result.andThen_ok,k6 hd,ha,Sem.run_ite,Bool.false_eq_true,if_false,run_load,this]
theorem av.run{n:Nat}{p:Value}{k:Value→Prop}(h:av n H p k){w:World}(hw:Own g H w){t:TypeId}{d:TypeDesc}(hd:P.underlying t=some d)(ha:cr d=true)
 {i:TypeInfo}(hi:P.info? t=some i)(hn:i.size=n):
  ∃v,(Instr.loadAt t p).run P w=.ok v w∧k v:=by
 obtain⟨b,off,c,T,fz,rfl,hm,hs,hk⟩:=h
 refine⟨_,?_,hk⟩
 simp only[Instr.loadAt,Instr.sureAddr,loadVar,Sem.run_bind,Sem.run_pure,Result.andThen_ok,k6 hd,ha,Sem.run_ite,if_true,run_sizeOf hi,hn,ij hw hm off n hs]
theorem St.run{n:Nat}{p x:Value}{k:Hp→Prop}(h:St n H p x k){w:World}(hw:Own g H w){t:TypeId}{i:TypeInfo}(hi:P.info? t=some i)(hn:i.size=n):
  ∃w' H',(Instr.storeAt t p x).run P w=.ok () w'∧Own g H' w'∧k H':=by
 obtain⟨b,off,c,T,H',rfl,hx,hs,hv,hu,hk⟩:=h
 obtain⟨w',hr,ho⟩:=eO (P:=P) off x.cells.toList 0 c H H' w hw (by simpa using hu) hv (by simp;omega)
 refine⟨w',H',?_,ho,hk⟩
 simp only[Instr.storeAt,Instr.sureAddr,storeVar,Sem.run_bind,Sem.run_pure,Result.andThen_ok,run_sizeOf hi,hn,hx,ne_eq,not_true,if_false,hr]
theorem HR{op:BinOp}{k:IntKind}{a b:Int}{v:Value}{t:TypeId}(h:iE op k a b=some v)(w:World)(hs:op≠.shl∧op≠.shr):
  (binOp op t (.int k a) (.int k b)).run P w=.ok v w:=by
 cases op<;>simp[iE]at h hs<;>try subst h
 case quo=> 
  obtain⟨h0,rfl⟩:=h
  simp[binOp,Op.intDiv,h0]
 case rem=>
  obtain⟨h0,rfl⟩:=h
  simp[binOp,Op.intDiv,h0]
 all_goals first
  |simp[binOp,Op.intArith];done
  |simp[binOp,Op.intCmp];done
  |(simp only[binOp_and,binOp_or,binOp_xor,binOp_andNot,intBits_and,intBits_or,intBits_xor,intBits_andNot];rfl)
theorem gw{t:TypeId}{x y:Value}{r:Result Bool}{w:World}(h:∀d,(Op.equalIn (d+1) t x y).run P w=r):(Op.equal t x y).run P w=r:=h 9999
theorem run_eql_bool{t:TypeId}(hd:P.underlying t=some .bool)(a b:Bool)(w:World):(Op.equal t (.bool a) (.bool b)).run P w=.ok (a==b) w:=
 gw fun d=>by simp[Op.equalIn,run_underlying hd]
theorem vS{t e:TypeId}(hd:P.underlying t=some (.pointer e))(a b:Option Addr)(hab:a.isNone∨b.isNone)(w:World):(Op.equal t (.pointer a) (.pointer b)).run P w=.ok (a.isNone&&b.isNone) w:=
 gw fun d=>by cases a<;>cases b<;>simp at hab<;>simp[Op.equalIn,run_underlying hd]
theorem sI{t e:TypeId}(hd:P.underlying t=some (.slice e))(a b:Option Addr)(n c n' c':Nat)(hab:a.isNone∨b.isNone)(w:World):(Op.equal t (.slice a n c) (.slice b n' c')).run P w=.ok (a.isNone&&b.isNone) w:=
 gw fun d=>by cases a<;>cases b<;>simp at hab<;>simp[Op.equalIn,run_underlying hd]
theorem vU{t e f:TypeId}(hd:P.underlying t=some (.map e f))(a b:Option Nat)(hab:a.isNone∨b.isNone)(w:World):(Op.equal t (.map a) (.map b)).run P w=.ok (a.isNone&&b.isNone) w:=
 gw fun d=>by cases a<;>cases b<;>simp at hab<;>simp[Op.equalIn,run_underlying hd]
theorem Jk{kd:BK}{op:BinOp}{x y v:Value}{t:TypeId}{d:TypeDesc}(hd:P.underlying t=some d)(hk:vn d=kd)(h:eS kd op x y=some v)(w:World):
  (binOp op t x y).run P w=.ok v w:=by
 cases x<;>simp only[eS]at h<;>try (simp at h;done)
 case int k a=>
  cases y<;>simp only at h<;>try (simp at h;done)
  rename_i k' b
  by_cases hs:op=.shl
  ·subst hs
   simp only at h
   split at h
   ·simp at h
   ·simp only[Option.some.injEq]at h;subst h;rename_i hb;simp[binOp,Op.shift,hb]
  by_cases hs':op=.shr
  ·subst hs'
   simp only at h
   split at h
   ·simp at h
   ·simp only[Option.some.injEq]at h;subst h;rename_i hb;simp[binOp,Op.shift,hb]
  have h2:(if k=k' then iE op k a b else none)=some v:=by
   cases op<;>first|exact h|exact absurd rfl hs|exact absurd rfl hs'
  split at h2
  ·rename_i e;subst e;exact HR h2 w ⟨hs,hs'⟩
  ·simp at h2
 case bool a=>
  split at h<;>simp only[Option.some.injEq,reduceCtorEq]at h
  all_goals
   subst h
   have:d=.bool:=by cases d<;>simp_all[vn]
   subst this
   simp[binOp,run_eql_bool hd]
 case string a=>
  split at h<;>simp only[Option.some.injEq,reduceCtorEq]at h
  all_goals
   subst h
   first|rfl|(simp only[binOp,Op.stringOp];rfl)
 case pointer a=>
  split at h<;>try (simp at h;done)
  all_goals
   have:∃e,d=.pointer e:=by cases d<;>simp_all[vn]
   obtain⟨e,rfl⟩:=this
   split at h<;>simp only[Option.some.injEq,reduceCtorEq]at h
   subst h
   rename_i bb hab
   simp[binOp,vS hd _ _ hab]
 case slice a n c=>
  split at h<;>try (simp at h;done)
  all_goals
   have:∃e,d=.slice e:=by cases d<;>simp_all[vn]
   obtain⟨e,rfl⟩:=this
   split at h<;>simp only[Option.some.injEq,reduceCtorEq]at h
   subst h
   rename_i bb _ _ hab
   simp[binOp,sI hd _ _ _ _ _ _ hab]
 case map a=>
  split at h<;>try (simp at h;done)
  all_goals
   have:∃e f,d=.map e f:=by cases d<;>simp_all[vn]
   obtain⟨e,f,rfl⟩:=this
   split at h<;>simp only[Option.some.injEq,reduceCtorEq]at h
   subst h
   rename_i bb hab
   simp[binOp,vU hd _ _ hab]
theorem zL{kd:BK}{op:BinOp}{x y v:Value}{t:TypeId}{ox oy:Operand}(h:eS kd op x y=some v):eqGuard op t ox oy x y=pure ():=by
 cases x<;>simp[eS]at h<;>cases op<;>rfl
theorem aa.run{kd:BK}{op:BinOp}{x y:Value}{k:Value→Prop}(h:aa kd op x y k)(w:World){t:TypeId}{d:TypeDesc}{ox oy:Operand}(hd:P.underlying t=some d)(hk:vn d=kd):
  ∃v,(do eqGuard op t ox oy x y;binOp op t x y:Sem Value).run P w=.ok v w∧k v:=by
 obtain⟨v,hv,hkv⟩:=h
 refine⟨v,?_,hkv⟩
 rw[Sem.run_bind,zL hv]
 simp only[Sem.run_pure,Result.andThen_ok]
 exact Jk hd hk hv w
theorem Un.run{op:UnOp}{x:Value}{k:Value→Prop}(h:Un op x k)(w:World):∃v,(Op.unary op x).run P w=.ok v w∧k v:=by
 obtain⟨v,hv,hk⟩:=h
 refine⟨v,?_,hk⟩
 cases op<;>cases x<;>simp[Sz]at hv<;>subst hv
 all_goals first|(simp[Op.unary,Op.intArith];done)|rfl
theorem bf.run{kd:IntKind}{x:Value}{k:Value→Prop}(h:bf kd x k)(w:World){src dst:TypeId}{ds dd:TypeDesc}(hs:P.underlying src=some ds)(hd:P.underlying dst=some dd)(hk:dd=.int kd):
  ∃v,(convert src dst x).run P w=.ok v w∧k v:=by
 obtain⟨j,n,rfl,hkv⟩:=h
 subst hk
 refine⟨_,?_,hkv⟩
 simp only[convert,Sem.run_bind,run_underlying hs,run_underlying hd,Result.andThen_ok]
 cases ds<;>rfl
theorem ag.run{off:Nat}{x:Value}{k:Value→Prop}(h:ag off x k)(w:World){s:TypeId}{fs:Array Field}{f:Nat}{fl:Field}{i:TypeInfo}(hs:P.underlying s=some (.struct fs))(hf:fs[f]? =some fl)
 (hi:P.info? fl.type=some i)(h0:i.size≠0)(ho:fl.offset=off):∃v,(Instr.fieldAt s x f).run P w=.ok v w∧k v:=by
 obtain⟨b,o,rfl,hk⟩:=h
 refine⟨_,?_,hk⟩
 subst ho
 simp[Instr.fieldAt,run_underlying hs,hf,Instr.sureAddr,fieldPlace,run_sizeOf hi,h0,Addr.add_lit]
theorem yA.run{off:Nat}{x:Value}{k:Value→Prop}(h:yA off x k)(w:World){s:TypeId}{fs:Array Field}{f:Nat}{fl:Field}{d:TypeDesc}(hs:P.underlying s=some (.struct fs))(hf:fs[f]? =some fl)
 (hd:P.underlying fl.type=some d)(ha:cr d=false)(ho:fl.offset=off):∃v,(Instr.field s x f).run P w=.ok v w∧k v:=by
 obtain⟨cs,v,rfl,hc,hk⟩:=h
 refine⟨v,?_,hk⟩
 subst ho
 simp[Instr.field,run_underlying hs,hf,asAgg,part,k6 hd,ha,hc]
theorem Mf.run{off n:Nat}{x:Value}{k:Value→Prop}(h:Mf off n x k)(w:World){s:TypeId}{fs:Array Field}{f:Nat}{fl:Field}{d:TypeDesc}{i:TypeInfo}(hs:P.underlying s=some (.struct fs))(hf:fs[f]? =some fl)
 (hd:P.underlying fl.type=some d)(ha:cr d=true)(hi:P.info? fl.type=some i)(hn:i.size=n)(ho:fl.offset=off):∃v,(Instr.field s x f).run P w=.ok v w∧k v:=by
 obtain⟨cs,rfl,hk⟩:=h
 refine⟨_,?_,hk⟩
 subst ho;subst hn
 simp[Instr.field,run_underlying hs,hf,asAgg,part,k6 hd,ha,run_sizeOf hi]
theorem aj.run{size:Nat}{x ix:Value}{k:Value→Prop}(h:aj size x ix k)(w:World){t e:TypeId}{i:TypeInfo}(ht:P.underlying t=some (.slice e))(hi:P.info? e=some i)(hn:i.size=size):
  ∃v,(Instr.indexAt t x ix).run P w=.ok v w∧k v:=by
 obtain⟨b,o,n,c,kd,j,rfl,rfl,h0,h1,hk⟩:=h
 refine⟨_,?_,hk⟩
 subst hn
 simp[Instr.indexAt,run_underlying ht,asIntOf,h0,h1,run_sizeOf hi,Addr.add_lit]
theorem ye.run{len size:Nat}{x ix:Value}{k:Value→Prop}(h:ye len size x ix k)(w:World){t e:TypeId}{i:TypeInfo}(ht:P.underlying t=some (.array len e))(hi:P.info? e=some i)(hn:i.size=size):
  ∃v,(Instr.indexAt t x ix).run P w=.ok v w∧k v:=by
 obtain⟨b,o,kd,j,rfl,rfl,h0,h1,hk⟩:=h
 refine⟨_,?_,hk⟩
 subst hn
 simp[Instr.indexAt,run_underlying ht,asIntOf,h0,h1,run_sizeOf hi,Addr.add_lit,Instr.sureAddr]
theorem di.run{size:Nat}{x:Value}{lo hi:Option Value}{k:Value→Prop}(h:di size x lo hi k)(w:World){t e:TypeId}{i:TypeInfo}(ht:P.underlying t=some (.slice e))(hi':P.info? e=some i)(hn:i.size=size):
  ∃v,(Instr.sliceAt t x lo hi none).run P w=.ok v w∧k v:=by
 obtain⟨a,n,c,l,hh,rfl,hl,oz,h0,h1,h2,hk⟩:=h
 refine⟨_,?_,hk⟩
 subst hn
 have bl:∀(kk:IntKind) (z:Int) (y:Nat) (cd:BoundsCode),0≤z→z≤y→(Instr.sliceBound (.int kk z) y cd).run P w=.ok z.toNat w:=by
  intro kk z y cd a1 a2
  simp[Instr.sliceBound,asIntOf,a1,a2]
 have jt:∀(m l:Nat),(if m=l then a else a.map (·.add (l*i.size)))=(if m=l then a else a.map fun x=>x.add (l*i.size)):=fun _ _=>rfl
 have e1:l≤((hh.toNat:Nat):Int):=by omega
 cases lo with
 |none=>
  simp only[KX,Option.some.injEq]at hl
  subst hl
  cases hi with
  |none=>
   simp only[EA,Option.some.injEq]at oz
   subst oz
   simp[Instr.sliceAt,run_underlying ht,Instr.slice,Instr.sliceBounds,run_sizeOf hi']
  |some v=>
   cases v<;>simp only[EA,reduceCtorEq,Option.some.injEq]at oz
   subst oz
   simp[Instr.sliceAt,run_underlying ht,Instr.slice,Instr.sliceBounds,run_sizeOf hi',bl _ _ c .sliceAcap (by omega) h2]
 |some vl=>
  cases vl<;>simp only[KX,reduceCtorEq,Option.some.injEq]at hl
  subst hl
  cases hi with
  |none=>
   simp only[EA,Option.some.injEq]at oz
   subst oz
   have:=bl ‹_› _ n .sliceB h0 h1
   simp[Instr.sliceAt,run_underlying ht,Instr.slice,Instr.sliceBounds,run_sizeOf hi',this]
  |some v=>
   cases v<;>simp only[EA,reduceCtorEq,Option.some.injEq]at oz
   subst oz
   rename_i k1 n1 k2 n2
   have b1:=bl k2 n2 c .sliceAcap (by omega) h2
   have b2:=bl k1 n1 n2.toNat .sliceB h0 (by omega)
   simp[Instr.sliceAt,run_underlying ht,Instr.slice,Instr.sliceBounds,run_sizeOf hi',b1,b2]
theorem Ext.run{i:Nat}{x:Value}{k:Value→Prop}(h:Ext i x k)(w:World):∃v,(Instr.extract x i).run P w=.ok v w∧k v:=by
 obtain⟨vs,v,rfl,hv,hk⟩:=h
 exact⟨v,by simp[Instr.extract,hv],hk⟩
theorem aA.run{x:Value}{k:Value→Prop}(h:aA x k)(w:World){t e ty:TypeId}(ht:P.underlying t=some (.slice e)):∃v,(Builtin.len_ #[t] ty #[x]).run P w=.ok v w∧k v:=by
 obtain⟨a,n,c,rfl,hk⟩:=h
 exact⟨_,by simp[Builtin.len_,run_underlying ht,goInt],hk⟩
theorem aP{w:World}(hw:Own g H w){b:Nat}{es:Array MapEntry}{clock:Nat}(hm:(b,Obj.map es clock)∈H):(getObj b).run P w=.ok (.map es clock) w:=by
 have:=hw.has _ hm
 simp only at this
 simp[getObj,Sem.run,this]
theorem vy.run{x:Value}{k:Value→Prop}(h:vy H x k){w:World}(hw:Own g H w){t e e' ty:TypeId}(ht:P.underlying t=some (.map e e')):∃v,(Builtin.len_ #[t] ty #[x]).run P w=.ok v w∧k v:=by
 obtain⟨m,rfl,⟨rfl,hk⟩|⟨b,es,clock,rfl,hm,hk⟩⟩:=h
 ·exact⟨_,by simp[Builtin.len_,run_underlying ht,goInt],hk⟩
 ·exact⟨_,by simp[Builtin.len_,run_underlying ht,goInt,aP hw hm],hk⟩
end
end Go.Sx
namespace Go.Sx
open Go
section
variable {P:Program} {g:Gh} {H:Hp} {K:Value→Hp→Prop} {KP:List PanicEntry→Hp→Prop}
theorem Cells.run{w:World}(hw:Own g H w){base:Option Addr}{size n cap:Nat}{cs:Array Value}(h:Cells H base (n*size) cs):
  (Builtin.firstCells size n (.slice base n cap)).run P w=.ok cs w:=by
 cases base with
 |none=>simp only[Cells]at h;subst h;simp[Builtin.firstCells]
 |some a=>
  rcases h with⟨hn,rfl⟩|⟨h0,c,T,fz,hm,hs,rfl⟩
  ·simp only[Builtin.firstCells,hn];rfl
  obtain⟨b,o,sp⟩:=a
  simp only at h0 hm hs;subst h0
  simp only[Builtin.firstCells,ij hw hm _ _ hs]
theorem App.run{elem size bytes:Nat}{zero:Value}{s x:Value}{k:Value→Hp→Prop}(h:App P elem size bytes zero H s x k){w:World}(hw:Own g H w){t t' ty:TypeId}{i:TypeInfo}
 (ht:P.underlying t=some (.slice elem))(ht':∃e,P.underlying t'=some (.slice e))(hi:P.info? elem=some i)(hz:i.zero=some zero)(hn:i.size=size)(hb:i.bytes=bytes):
  ∃v w' H',(Builtin.append_ #[t,t'] ty #[s,x]).run P w=.ok v w'∧Own g H' w'∧k v H':=by
 obtain⟨base,n,cap,xb,m,xc,olds,news,rfl,rfl,YZ,Rl,hsn,hso,hone,hfit,hgrow⟩:=h
 obtain⟨e',ht'⟩:=ht'
 subst hn;subst hb
 by_cases hc:n+m≤cap
 ·have hk:=hfit hc
  have hnew:=Cells.run (P:=P) (cap:=xc) hw Rl
  cases base with
  |none=>
   refine⟨_,w,H,?_,hw,hk⟩
   simp[Builtin.append_,run_underlying ht,run_underlying ht',run_sizeOf hi,Builtin.lenOf,hc,hnew]
  |some a=>
   obtain⟨c,T,H',h0,hs,hu,hk⟩:=hk
   obtain⟨b,o,sp⟩:=a
   simp only at h0 hu hs;subst h0
   obtain⟨w',hr,ho⟩:=eO (P:=P) (o+n*i.size) news.toList 0 c H H' w hw (by simpa using hu) hone (by simp;omega)
   refine⟨_,w',H',?_,ho,hk⟩
   simp[Builtin.append_,run_underlying ht,run_underlying ht',run_sizeOf hi,Builtin.lenOf,hc,hnew,Addr.add_lit,hr]
 ·obtain⟨UN,h63,hk⟩:=hgrow (by omega)
  have gS:=hw.drew
  have hnew:=Cells.run (P:=P) (cap:=xc) gS Rl
  have hold:=Cells.run (P:=P) (cap:=cap) gS YZ
  have hnx:Builtin.nextslicecap (n+m) cap*i.bytes≤281474976710656:=growslice_fits (by omega) UN
  have Vp:¬(281474976710656<Builtin.nextslicecap (n+m) cap*i.bytes):=by omega
  have Vn:¬(9223372036854775807<((n:Int)+(m:Int))):=by omega
  obtain⟨jk,rA,hkk⟩:=hk (grownCap w (n+m) cap elem) (by simp only[grownCap,Question.cut];omega) _ gS.fresh
  refine⟨_,_,_,?_,rA _ _ (gS.alloc _),hkk⟩
  ·simp[Builtin.append_,run_underlying ht,run_underlying ht',sizeOf,typeInfo,zeroValue,hi,hz,Builtin.lenOf,hc,Vn,Vp,Question.forced,hnew,hold,newRow,grownCap]
theorem br.run{elem size bytes:Nat}{zero:Value}{l c:Value}{k:Value→Hp→Prop}(h:br elem size bytes zero H l c k){w:World}(hw:Own g H w){t:TypeId}{i:TypeInfo}
 (ht:P.underlying t=some (.slice elem))(hi:P.info? elem=some i)(hz:i.zero=some zero)(hn:i.size=size)(hb:i.bytes=bytes):
  ∃v w' H',(Instr.makeSlice t l c).run P w=.ok v w'∧Own g H' w'∧k v H':=by
 obtain⟨kl,kc,ln,cn,rfl,rfl,hlc,aV,hby,hk⟩:=h
 subst hn;subst hb
 refine⟨_,_,_,?_,hw.alloc _,hk _ hw.fresh⟩
 have e1:IntKind.i64.wrap (ln:Int)=ln:=IntWalk.i64_in _ (by omega)
 have e2:IntKind.i64.wrap (cn:Int)=cn:=IntWalk.i64_in _ (by omega)
 have e3:¬((i.bytes:Int)*(cn:Int)>281474976710656):=by
  have:((cn*i.bytes:Nat):Int)≤281474976710656:=by omega
  rw[Int.mul_comm];push_cast at this;omega
 have e4:¬((cn:Int)<ln):=by omega
 by_cases h0:cn*i.size=0
 ·simp[Instr.makeSlice,run_underlying ht,asInt,asIntOf,typeInfo,hi,e1,e2,e3,e4,sizeOf,zeroValue,hz,newRow,madeCells,h0,show¬((cn:Int)<0)from by omega,show¬((ln:Int)<0)from by omega]
  have:Array.range 0=#[]:=rfl
  simp[this]
 ·simp[Instr.makeSlice,run_underlying ht,asInt,asIntOf,typeInfo,hi,e1,e2,e3,e4,sizeOf,zeroValue,hz,newRow,madeCells,h0,show¬((cn:Int)<0)from by omega,show¬((ln:Int)<0)from by omega]
theorem Dw.run{m:Value}{es:Array MapEntry}(h:Dw H m es){w:World}(hw:Own g H w):
  (m=.map none∧es=#[])∨∃b clock,m=.map (some b)∧(getObj b).run P w=.ok (.map es clock) w:=by
 rcases h with h|⟨b,clock,hm,hb⟩
 ·exact .inl h
 ·exact .inr ⟨b,clock,hm,aP hw hb⟩
theorem run_checkKey(e:Bool){t:TypeId}{d:TypeDesc}(hd:P.underlying t=some d)(hp:plainKey d=true)(v:Value)(w:World):(Instr.checkKey e 10000 t v).run P w=.ok () w:=by
 have:∀n,(Instr.checkKey e (n+1) t v).run P w=.ok () w:=fun n=>by
  simp only[Instr.checkKey,Sem.run_bind,run_underlying hd,Result.andThen_ok]
  cases d<;>first|(simp[plainKey]at hp;done)|rfl
 exact this 9999
theorem run_findKey{t:TypeId}{d:TypeDesc}(hd:P.underlying t=some d){key:Value}{es:List MapEntry}{r:Option (Nat×Value)}(h:Instr.findNow d key es 0=some r)(w:World):
  (Instr.findKey t key es).run P w=.ok r w:=by
 simp[Instr.findKey,run_underlying hd,h]
theorem jY.run{kd:TypeDesc}{zero:Value}{ok:Bool}{m key:Value}{k:Value→Prop}(h:jY kd zero ok H m key k){w:World}(hw:Own g H w){t kt e:TypeId}{i:TypeInfo}
 (ht:P.underlying t=some (.map kt e))(hk:P.underlying kt=some kd)(hp:plainKey kd=true)(hi:P.info? e=some i)(hz:i.zero=some zero):
  ∃v,(Instr.lookup t m key ok).run P w=.ok v w∧k v:=by
 obtain⟨es,r,hm,hf,hkv⟩:=h
 have ej:=fun b=>run_checkKey (P:=P) b hk hp key w
 have gH:=run_findKey (P:=P) hk hf w
 refine⟨_,?_,hkv⟩
 rcases hm.run (P:=P) hw with⟨rfl,rfl⟩|⟨b,clock,rfl,hg⟩
 ·cases r with
  |none=>cases ok<;>simp[Instr.lookup,run_underlying ht,ej,gH,dU hi hz]
  |some x=>obtain⟨j,v⟩:=x;cases ok<;>simp[Instr.lookup,run_underlying ht,ej,gH]
 ·cases r with
  |none=>cases ok<;>simp[Instr.lookup,run_underlying ht,ej,gH,dU hi hz,hg]
  |some x=>obtain⟨j,v⟩:=x;cases ok<;>simp[Instr.lookup,run_underlying ht,ej,gH,hg]
theorem bG{w:World}(hw:Own g H w){b:Nat}{es:Array MapEntry}{clock:Nat}(es':Array MapEntry)(clock':Nat){H':Hp}(hu:cA b (.map es clock) (.map es' clock') H H'):
  ∃w',(setObj b (.map es' clock')).run P w=.ok () w'∧Own g H' w':=by
 have hm:=hw.has _ hu.mem
 simp only at hm
 refine⟨{w with heap:=w.heap.setIfInBounds b (.map es' clock')},by simp[setObj,Sem.run,hm],?_⟩
 have hlt:=hw.lt hu.mem
 refine hw.bS hu rfl rfl rfl ?_ ?_
 ·simp only at hlt;simp[hlt]
 ·intro c hc;rw[Array.getElem?_setIfInBounds,if_neg (fun e=>hc (Eq.symm e))]
theorem ez.run{kd:TypeDesc}{m key val:Value}{k:Hp→Prop}(h:ez kd H m key val k){w:World}(hw:Own g H w){t kt e:TypeId}
 (ht:P.underlying t=some (.map kt e))(hk:P.underlying kt=some kd)(hp:plainKey kd=true):
  ∃w' H',(Instr.mapUpdate t m key val).run P w=.ok () w'∧Own g H' w'∧k H':=by
 obtain⟨b,es,clock,r,rfl,hf,hr⟩:=h
 have ej:=fun b=>run_checkKey (P:=P) b hk hp key w
 have gH:=run_findKey (P:=P) hk hf w
 cases r with
 |none=>
  obtain⟨H',hu,hkk⟩:=hr
  obtain⟨w',hs,ho⟩:=bG (P:=P) hw _ _ hu
  refine⟨w',H',?_,ho,hkk⟩
  simp[Instr.mapUpdate,run_underlying ht,aP hw hu.mem,ej,gH,hs]
 |some x=>
  obtain⟨j,v⟩:=x
  obtain⟨hsame,hj,H',hu,hkk⟩:=hr
  obtain⟨w',hs,ho⟩:=bG (P:=P) hw _ _ hu
  refine⟨w',H',?_,ho,hkk⟩
  have T2:=hsame es[j] (Array.getElem?_eq_getElem hj)
  simp[Instr.mapUpdate,run_underlying ht,aP hw hu.mem,ej,gH,hj,Instr.keyThatStays,T2,hs]
theorem si.run{kd:TypeDesc}{m key:Value}{k:Hp→Prop}(h:si kd H m key k){w:World}(hw:Own g H w){t kt e ty:TypeId}{as:Array TypeId}(has:as[0]? =some t)
 (ht:P.underlying t=some (.map kt e))(hk:P.underlying kt=some kd)(hp:plainKey kd=true):
  ∃w' H',(Builtin.delete_ as ty #[m,key]).run P w=.ok (.tuple #[]) w'∧Own g H' w'∧k H':=by
 have ej:=fun b=>run_checkKey (P:=P) b hk hp key w
 rcases h with⟨rfl,hkk⟩|⟨b,es,clock,r,rfl,hf,hr⟩
 ·exact⟨w,H,by simp[Builtin.delete_,has,run_underlying ht,ej],hw,hkk⟩
 ·have gH:=run_findKey (P:=P) hk hf w
  cases r with
  |none=>
   obtain⟨hm,hkk⟩:=hr
   have hu:∃H',cA b (.map es clock) (.map es clock) H H'∧H'=H:=by
    clear hkk hf gH hw
    induction H with
    |nil=>simp at hm
    |cons x R ih=>
     rcases List.mem_cons.1 hm with e|hm'
     ·subst e;exact⟨_,.head _,rfl⟩
     ·obtain⟨H',u,rfl⟩:=ih hm';exact⟨_,.tail u,rfl⟩
   obtain⟨H',hu,rfl⟩:=hu
   obtain⟨w',hs,ho⟩:=bG (P:=P) hw _ _ hu
   exact⟨w',_,by simp[Builtin.delete_,has,run_underlying ht,aP hw hm,ej,gH,hs],ho,hkk⟩
  |some x=>
   obtain⟨j,v⟩:=x
   obtain⟨H',hu,hkk⟩:=hr
   obtain⟨w',hs,ho⟩:=bG (P:=P) hw _ _ hu
   exact⟨w',_,by simp[Builtin.delete_,has,run_underlying ht,aP hw hu.mem,ej,gH,hs],ho,hkk⟩
theorem xD{kd:TypeDesc}(h:cr kd=true)(key:Value)(es:List MapEntry)(i:Nat):Instr.findNow kd key es i=if es=[]then some none else none:=by
 cases es with
 |nil=>rfl
 |cons e r=>
  simp only[Instr.findNow,reduceCtorEq,if_false]
  cases kd<;>simp[cr]at h<;>rfl
theorem kj{kt:TypeId}{key:Value}:∀{es:List MapEntry} {i:Nat} {r:Option (Nat×Value)},jU P kt key es i r→∀w,(Instr.findAsking kt key es i).run P w=.ok r w
 | [],i,r,h,w=>by simp only[jU]at h;subst h;rfl
 |e::es,i,r,h,w=>by
  obtain⟨b,he,h1,h2⟩:=h
  simp only[Instr.findAsking,Sem.run_bind,he w,Result.andThen_ok]
  cases b
  ·simp only[Bool.false_eq_true,if_false];exact kj (h2 rfl) w
  ·simp only[if_true,h1 rfl,Sem.run_pure]
theorem ff{t:TypeId}{d:TypeDesc}(hd:P.underlying t=some d)(ha:cr d=true){key:Value}{es:List MapEntry}{r:Option (Nat×Value)}(h:jU P t key es 0 r)(w:World):
  (Instr.findKey t key es).run P w=.ok r w:=by
 simp only[Instr.findKey,Sem.run_bind,run_underlying hd,Result.andThen_ok,xD ha]
 cases es with
 |nil=>simp only[jU]at h;subst h;simp
 |cons e es=>simp only[reduceCtorEq,if_false];exact kj h w
theorem jj.run{zero:Value}{ok:Bool}{m key:Value}{k:Value→Prop}{t kt e:TypeId}{kd:TypeDesc}(h:jj P kt zero ok H m key k){w:World}(hw:Own g H w){i:TypeInfo}
 (ht:P.underlying t=some (.map kt e))(hk:P.underlying kt=some kd)(hp:cr kd=true)(hi:P.info? e=some i)(hz:i.zero=some zero):
  ∃v,(Instr.lookup t m key ok).run P w=.ok v w∧k v:=by
 obtain⟨es,r,hm,hc,hf,hkv⟩:=h
 have ej:=fun b=>hc b w
 have gH:=ff (P:=P) hk hp hf w
 refine⟨_,?_,hkv⟩
 rcases hm.run (P:=P) hw with⟨rfl,rfl⟩|⟨b,clock,rfl,hg⟩
 ·cases r with
  |none=>cases ok<;>simp[Instr.lookup,run_underlying ht,ej,gH,dU hi hz]
  |some x=>obtain⟨j,v⟩:=x;cases ok<;>simp[Instr.lookup,run_underlying ht,ej,gH]
 ·cases r with
  |none=>cases ok<;>simp[Instr.lookup,run_underlying ht,ej,gH,dU hi hz,hg]
  |some x=>obtain⟨j,v⟩:=x;cases ok<;>simp[Instr.lookup,run_underlying ht,ej,gH,hg]
theorem jN.run{m key val:Value}{k:Hp→Prop}{t kt e:TypeId}{kd:TypeDesc}(h:jN P kt H m key val k){w:World}(hw:Own g H w)
 (ht:P.underlying t=some (.map kt e))(hk:P.underlying kt=some kd)(hp:cr kd=true):
  ∃w' H',(Instr.mapUpdate t m key val).run P w=.ok () w'∧Own g H' w'∧k H':=by
 obtain⟨b,es,clock,r,rfl,hc,hf,hr⟩:=h
 have ej:=fun b=>hc b w
 have gH:=ff (P:=P) hk hp hf w
 cases r with
 |none=>
  obtain⟨H',hu,hkk⟩:=hr
  obtain⟨w',hs,ho⟩:=bG (P:=P) hw _ _ hu
  refine⟨w',H',?_,ho,hkk⟩
  simp[Instr.mapUpdate,run_underlying ht,aP hw hu.mem,ej,gH,hs]
 |some x=>
  obtain⟨j,v⟩:=x
  obtain⟨hsame,hj,H',hu,hkk⟩:=hr
  obtain⟨w',hs,ho⟩:=bG (P:=P) hw _ _ hu
  refine⟨w',H',?_,ho,hkk⟩
  have T2:=hsame es[j] (Array.getElem?_eq_getElem hj)
  simp[Instr.mapUpdate,run_underlying ht,aP hw hu.mem,ej,gH,hj,Instr.keyThatStays,T2,hs]
theorem cA.same{b:Nat}{o:Obj}{H:Hp}(hm:(b,o)∈H):cA b o o H H:=by
 induction H with
 |nil=>simp at hm
 |cons x R ih=>
  rcases List.mem_cons.1 hm with e|hm'
  ·subst e;exact .head _
  ·exact .tail (ih hm')
theorem oq.run{m key:Value}{k:Hp→Prop}{t kt e ty:TypeId}{kd:TypeDesc}{as:Array TypeId}(h:oq P kt H m key k){w:World}(hw:Own g H w)(has:as[0]? =some t)
 (ht:P.underlying t=some (.map kt e))(hk:P.underlying kt=some kd)(hp:cr kd=true):
  ∃w' H',(Builtin.delete_ as ty #[m,key]).run P w=.ok (.tuple #[]) w'∧Own g H' w'∧k H':=by
 obtain⟨hc,h⟩:=h
 have ej:=fun b=>hc b w
 rcases h with⟨rfl,hkk⟩|⟨b,es,clock,r,rfl,hf,hr⟩
 ·exact⟨w,H,by simp[Builtin.delete_,has,run_underlying ht,ej],hw,hkk⟩
 ·have gH:=ff (P:=P) hk hp hf w
  cases r with
  |none=>
   obtain⟨hm,hkk⟩:=hr
   obtain⟨w',hs,ho⟩:=bG (P:=P) hw _ _ (cA.same hm)
   exact⟨w',_,by simp[Builtin.delete_,has,run_underlying ht,aP hw hm,ej,gH,hs],ho,hkk⟩
  |some x=>
   obtain⟨j,v⟩:=x
   obtain⟨H',hu,hkk⟩:=hr
   obtain⟨w',hs,ho⟩:=bG (P:=P) hw _ _ hu
   exact⟨w',_,by simp[Builtin.delete_,has,run_underlying ht,aP hw hu.mem,ej,gH,hs],ho,hkk⟩
theorem Sf.run{x:Value}{k:Value→Hp→Prop}(h:Sf H x k){w:World}(hw:Own g H w){t kt e:TypeId}(ht:P.underlying t=some (.map kt e)):
  ∃v w' H',(Instr.range t x).run P w=.ok v w'∧Own g H' w'∧k v H':=by
 rcases h with⟨rfl,hk⟩|⟨m,es,clock,rfl,hm,hk⟩
 ·refine⟨_,_,_,?_,hw.alloc _,hk _ hw.fresh⟩
  simp[Instr.range,run_underlying ht]
 ·refine⟨_,_,_,?_,hw.alloc _,hk _ hw.fresh⟩
  simp[Instr.range,run_underlying ht,aP hw hm]
theorem jO{w:World}(hw:Own g H w){b:Nat}{mo:Option Nat}{since last:Nat}{seen:Array Nat}(hm:(b,Obj.mapIter mo since seen last)∈H):(getObj b).run P w=.ok (.mapIter mo since seen last) w:=by
 have:=hw.has _ hm
 simp only at this
 simp[getObj,Sem.run,this]
theorem pV{w:World}(hw:Own g H w){b:Nat}{mo TL:Option Nat}{since last since' last':Nat}{seen seen':Array Nat}{H':Hp}(hu:cA b (.mapIter mo since seen last) (.mapIter TL since' seen' last') H H'):
  ∃w',(setObj b (.mapIter TL since' seen' last')).run P w=.ok () w'∧Own g H' w':=by
 have hm:=hw.has _ hu.mem
 simp only at hm
 refine⟨{w with heap:=w.heap.setIfInBounds b (.mapIter TL since' seen' last')},by simp[setObj,Sem.run,hm],?_⟩
 have hlt:=hw.lt hu.mem
 refine hw.bS hu rfl rfl rfl ?_ ?_
 ·simp only at hlt;simp[hlt]
 ·intro c hc;rw[Array.getElem?_setIfInBounds,if_neg (fun e=>hc (Eq.symm e))]
theorem JG.run{it:Value}{k:Value→Prop}(h:JG H it k){w:World}(hw:Own g H w):∃v,(Instr.entry it).run P w=.ok v w∧k v:=by
 obtain⟨b,m,since,seen,stamp,clock,es,e,rfl,hb,hs,hm,hf,hk⟩:=h
 refine⟨_,?_,hk⟩
 simp[Instr.entry,jO (P:=P) hw hb,hs,aP (P:=P) hw hm,hf]
theorem pW(n:Nat)(hn:0<n){w:World}:∃i w',(choose (.mapNext n)).run P w=.ok i w'∧i<n∧(w'=w∨w'=w.drew):=by
 by_cases h:n≤1
 ·exact⟨0,w,by simp[choose,Sem.run,Question.forced,h],hn,.inl rfl⟩
 ·exact⟨_,_,by simp only[choose,Sem.run,Question.forced,h,decide_false,Bool.false_eq_true,if_false];rfl,Nat.mod_lt _ hn,.inr rfl⟩
theorem PF.run{it:Value}{k:Value→Hp→Prop}(h:PF H it k){w:World}(hw:Own g H w){ty:TypeId}:
  ∃v w' H',(Instr.next it false ty).run P w=.ok v w'∧Own g H' w'∧k v H':=by
 obtain⟨b,mo,since,seen,last,rfl,hb,h⟩:=h
 have Ws:=jO (P:=P) hw hb
 cases mo with
 |none=>exact⟨_,w,H,by simp[Instr.next,Ws],hw,h⟩
 |some m=>
  obtain⟨es,clock,hm,IJ,pG,QI⟩:=h
  have YP:=aP (P:=P) hw hm
  have QU:(!seen.isEmpty&& !es.isEmpty&&es.all (fun e=>decide (e.born≥last)))=false:=by
   cases he:es.isEmpty
   ·have hne:es≠#[]:=by intro e;rw[e]at he;simp at he
    have:es.all (fun e=>decide (e.born≥last))=false:=by
     rw[←Bool.not_eq_true,Array.all_eq_true]
     intro aB
     have h0:0<es.size:=Array.size_pos_iff.2 hne
     have:=aB 0 h0
     have h2:=(IJ es[0] (by simp)).2
     simp only[ge_iff_le,decide_eq_true_eq]at this
     omega
    rw[this];simp
   ·simp
  have hold:((es.filter fun e=> !seen.contains e.born).filter fun e=>decide (e.born<since))=es.filter fun e=> !seen.contains e.born:=by
   rw[Array.filter_eq_self]
   intro e he
   have:=(Array.mem_filter.1 he).1
   exact decide_eq_true (IJ e (by simpa using this)).1
  have hnew:((es.filter fun e=> !seen.contains e.born).filter fun e=>decide (e.born≥since))=#[]:=by
   rw[Array.filter_eq_empty_iff]
   intro e he
   have:=(Array.mem_filter.1 he).1
   have:=(IJ e (by simpa using this)).1
   simp only[ge_iff_le,decide_eq_true_eq];omega
  generalize hleft:(es.filter fun e=> !seen.contains e.born)=left at hold hnew
  have hrun:∀(rest:Sem Value),(Instr.next (.pointer (some ⟨b,0,none⟩)) false ty).run P w=((choose (.mapNext (((if left.isEmpty then#[none]else#[])++left.map some).size))).run P w).andThen fun i w=>(Sem.run P (match((if left.isEmpty then#[none]else#[])++left.map some)[i]? with
    |some (some e)=>do setObj b (.mapIter (some m) since (seen.push e.born) clock);pure (.tuple #[.bool true,e.key,e.val])
    |some none=>pure (.tuple #[.bool false])
    |none=>stuck "Next: no such candidate" :Sem Value) w):=by
   intro _
   simp only[Instr.next,Sem.run_bind,Ws,Result.andThen_ok,YP,QU,Bool.false_eq_true,if_false,hleft,hold,hnew,Array.append_empty,Sem.run_pure]
   rfl
  rw[hrun (pure undef)]
  by_cases Ox:left=#[]
  ·subst Ox
   simp only[Array.isEmpty_empty,if_true,Array.map_empty,Array.append_empty]
   refine⟨_,w,H,?_,hw,QI fun e he=>?_⟩
   ·simp[choose,Sem.run,Question.forced]
   ·have:=Array.filter_eq_empty_iff.1 hleft e (by simpa using he)
    simpa using this
  ·have hne:left.isEmpty=false:=by simpa using Ox
   have hpos:0<left.size:=Array.size_pos_iff.2 Ox
   simp only[hne,Bool.false_eq_true,if_false,Array.empty_append,Array.size_map]
   obtain⟨i,w1,hc,hi,gS⟩:=pW (P:=P) (w:=w) left.size hpos
   rw[hc]
   simp only[Result.andThen_ok]
   have fG:(left.map some)[i]? =some (some left[i]):=by simp[hi]
   simp only[fG]
   have hmem:left[i]∈es.filter fun e=> !seen.contains e.born:=by rw[hleft];exact Array.getElem_mem hi
   obtain⟨SR,SP⟩:=Array.mem_filter.1 hmem
   obtain⟨H',hu,hk⟩:=pG left[i] (by simpa using SR) (by simpa using SP)
   have ym:Own g H w1:=by rcases gS with rfl|rfl;exact hw;exact hw.drew
   obtain⟨w2,hs,jQ⟩:=pV (P:=P) ym hu
   exact⟨_,w2,H',by simp[hs],jQ,hk⟩
end
end Go.Sx
namespace Go.Sx
open Go
section
variable {P:Program} {g:Gh} {H:Hp} {K:Value→Hp→Prop} {KP:List PanicEntry→Hp→Prop}
def Sg(x:Value):Option Value:=
 match x with
 | .pointer (some a)=>some (.pointer (some a))
 | .func (.func f) a b=>some (.func (.func f) a b)
 | .iface t v=>some (.iface t v)
 |_=>none
def Nil(x:Value)(k:Value→Prop):Prop:=∃v,Sg x=some v∧k v
def Z2(fn:Fn)(a b:List Value)(k:Value→Prop):Prop:=k (.func fn a.toArray b.toArray)
def Build(P:Program)(t:TypeId)(parts:List (Nat×Value))(k:Value→Prop):Prop:=∃v,(∀w,(Instr.build t parts.toArray).run P w=.ok v w)∧k v
def m8(P:Program)(g:Gh)(o:Oper)(ρ:Operand→Value)(H:Hp)(k:Value→Prop):Prop:=
 ∃v,(∀w,Own g H w→(execOp ρ o).run P w=.ok (.value v) w)∧k v
def cT(P:Program)(t:TypeId):Option Nat:=match P.info? t with|some i=>some i.size|none=>none
def dR(P:Program)(t:TypeId):Option Value:=match P.info? t with|some i=>i.zero|none=>none
def rV(P:Program)(t:TypeId):Option Nat:=match P.info? t with|some i=>some i.bytes|none=>none
def yg(P:Program)(g:Gh)(o:Oper)(ρ:Operand→Value)(H:Hp)(k:Value→Prop):Prop:=
 match o.op with
 | .move x=>k (ρ x)
 | .assign x=>k (ρ x)
 | .pick c a b=>ay (ρ c) (ρ a) (ρ b) k
 | .load t a=>
  match P.underlying t,cT P t with
  |some d,some n=>cond (cr d) (av n H (ρ a) k) (Ld H (ρ a) k)
  |_,_=>False
 | .nilCheck x=>Nil (ρ x) k
 | .binOp op t x y _=>
  match P.underlying t with
  |some d=>match vn d with
   | .other=>m8 P g o ρ H k
   |bk=>aa bk op (ρ x) (ρ y) k
  |none=>False
 | .unOp op _ x=>Un op (ρ x) k
 | .convert s d x=>
  match P.underlying s,P.underlying d with
  |some _,some (.int kd)=>bf kd (ρ x) k
  |some (.slice e),some .string=>match P.underlying e with
   |some (.int .u8)=>iI H (ρ x) k
   |_=>m8 P g o ρ H k
  |_,_=>m8 P g o ρ H k
 | .index t x i=>
  match P.underlying t with
  |some .string=>Nm (ρ x) (ρ i) k
  |_=>m8 P g o ρ H k
 | .fieldAddr s x f=>
  match P.underlying s with
  |some (.struct fs)=>match fs[f]? with
   |some fl=>match cT P fl.type with
    |some (_+1)=>ag fl.offset (ρ x) k
    |_=>False
   |none=>False
  |_=>False
 | .field s x f=>
  match P.underlying s with
  |some (.struct fs)=>match fs[f]? with
   |some fl=>match P.underlying fl.type,cT P fl.type with
    |some d,some n=>cond (cr d) (Mf fl.offset n (ρ x) k) (yA fl.offset (ρ x) k)
    |_,_=>False
   |none=>False
  |_=>False
 | .indexAddr t x i=>
  match P.underlying t with
  |some (.slice e)=>match cT P e with
   |some n=>aj n (ρ x) (ρ i) k
   |none=>False
  |some (.array len e)=>match cT P e with
   |some n=>ye len n (ρ x) (ρ i) k
   |none=>False
  |_=>False
 | .slice t x lo hi none=>
  match P.underlying t with
  |some (.slice e)=>match cT P e with
   |some n=>di n (ρ x) (lo.map ρ) (hi.map ρ) k
   |none=>False
  |_=>m8 P g o ρ H k
 | .extract t i=>Ext i (ρ t) k
 | .lookup t m key ok=>
  match P.underlying t with
  |some (.map kt e)=>match P.underlying kt,dR P e with
   |some kd,some z=>cond (plainKey kd) (jY kd z ok H (ρ m) (ρ key) k) (cond (cr kd) (jj P kt z ok H (ρ m) (ρ key) k) (m8 P g o ρ H k))
   |_,_=>False
  |_=>False
 | .makeFunc fn a b=>Z2 fn (a.toList.map ρ) (b.toList.map ρ) k
 | .build t parts=>Build P t (parts.toList.map fun p=>(p.1,ρ p.2)) k
 | .makeInterface t x=>
  match P.underlying t with
  |some (.interface _)=>False
  |some _=>k (.iface t (ρ x))
  |none=>False
 | .call c=>
  match c.callee with
  | .builtin .len=>
   match c.args.toList,c.argTypes.toList with
   | [x],[t]=>match P.underlying t with
    |some (.slice _)=>aA (ρ x) k
    |some (.map _ _)=>vy H (ρ x) k
    |some .string=>O4 (ρ x) k
    |_=>m8 P g o ρ H k
   |_,_=>False
  | .builtin .max=>match c.args.toList,c.argTypes.toList with
   | [x,y],[t,_]=>match P.underlying t with
    |some (.int _)=>O3 (ρ x) (ρ y) k
    |_=>m8 P g o ρ H k
   |_,_=>m8 P g o ρ H k
  | .builtin .min=>match c.args.toList,c.argTypes.toList with
   | [x,y],[t,_]=>match P.underlying t with
    |some (.int _)=>Si (ρ x) (ρ y) k
    |_=>m8 P g o ρ H k
   |_,_=>m8 P g o ρ H k
  | .builtin _=>m8 P g o ρ H k
  |_=>False
 |_=>m8 P g o ρ H k
theorem mapList{α β:Type}(f:α→β)(a:Array α):(a.toList.map f).toArray=a.map f:=by rw[←Array.toList_map,Array.toArray_toList]
theorem R7{α:Type}{a:Array α}{x:α}(h:a.toList=[x]):a=#[x]:=by cases a;simp_all
theorem x6{α:Type}{a:Array α}{x y:α}(h:a.toList=[x,y]):a=#[x,y]:=by cases a;simp_all
theorem Ld.fix{p:Value}{k:Value→Prop}(h:Ld H p k):∃v,k v∧Ld H p (· =v):=by
 obtain⟨b,off,c,T,fz,v,h1,h2,h3,hk⟩:=h;exact⟨v,hk,b,off,c,T,fz,v,h1,h2,h3,rfl⟩
theorem av.fix{n:Nat}{p:Value}{k:Value→Prop}(h:av n H p k):∃v,k v∧av n H p (· =v):=by
 obtain⟨b,off,c,T,fz,h1,h2,h3,hk⟩:=h;exact⟨_,hk,b,off,c,T,fz,h1,h2,h3,rfl⟩
theorem jY.fix{kd:TypeDesc}{zero:Value}{ok:Bool}{m key:Value}{k:Value→Prop}(h:jY kd zero ok H m key k):∃v,k v∧jY kd zero ok H m key (· =v):=by
 obtain⟨es,r,h1,h2,hk⟩:=h;exact⟨_,hk,es,r,h1,h2,rfl⟩
theorem vy.fix{x:Value}{k:Value→Prop}(h:vy H x k):∃v,k v∧vy H x (· =v):=by
 obtain⟨m,h1,⟨h2,hk⟩|⟨b,es,clock,h2,h3,hk⟩⟩:=h
 ·exact⟨_,hk,m,h1,.inl ⟨h2,rfl⟩⟩
 ·exact⟨_,hk,m,h1,.inr ⟨b,es,clock,h2,h3,rfl⟩⟩
theorem jj.fix{kt:TypeId}{zero:Value}{ok:Bool}{m key:Value}{k:Value→Prop}(h:jj P kt zero ok H m key k):∃v,k v∧jj P kt zero ok H m key (· =v):=by
 obtain⟨es,r,h1,h2,h3,hk⟩:=h;exact⟨_,hk,es,r,h1,h2,h3,rfl⟩
theorem zJ{F:Value→ByteArray→Sem (ForInStep ByteArray)}(hF:∀(b:UInt8) s,F (.int .u8 b.toNat) s=pure (.yield (s.push b))){l:List UInt8}(s:ByteArray)(w:World):
  (forIn (l.map fun b=>Value.int .u8 b.toNat) s F).run P w=.ok (⟨s.data++l.toArray⟩:ByteArray) w:=by
 induction l generalizing s with
 |nil=>simp
 |cons b r ih=>
  simp only[List.map_cons,List.forIn_cons,hF,Sem.run_bind,Sem.run_pure,Result.andThen_ok]
  rw[ih]
  congr 1
  simp[ByteArray.push]
theorem iI.run{x:Value}{k:Value→Prop}(h:iI H x k){w:World}(hw:Own g H w):∃v,(Conv.bytesToString x).run P w=.ok v w∧k v:=by
 obtain⟨base,n,c,bs,rfl,hc,hn,hk⟩:=h
 refine⟨_,?_,hk⟩
 cases base with
 |none=>
  simp only[Cells]at hc
  have:bs=[]:=by simpa using congrArg Array.size hc
  subst this;rfl
 |some a=>
  have:=Cells.run (P:=P) (size:=1) (cap:=c) hw (by rw[Nat.mul_one];exact hc)
  simp only[Builtin.firstCells,Nat.mul_one]at this
  simp only[Conv.bytesToString,Sem.run_bind,this,Result.andThen_ok]
  rw[List.forIn_toArray,zJ (P:=P) (l:=bs) (fun b s=>by simp)]
  have e:ByteArray.empty.data=#[]:=rfl
  simp[e]
theorem iI.fix{x:Value}{k:Value→Prop}(h:iI H x k):∃v,k v∧iI H x (· =v):=by
 obtain⟨base,n,c,bs,h1,h2,h3,hk⟩:=h;exact⟨_,hk,base,n,c,bs,h1,h2,h3,rfl⟩
def Reads(P:Program)(g:Gh)(o:Oper)(ρ:Operand→Value)(H:Hp)(k:Value→Prop):Prop:=
 ∃v,k v∧∀w,Own g H w→(execOp ρ o).run P w=.ok (.value v) w
theorem Reads.mk{o:Oper}{ρ:Operand→Value}{k:Value→Prop}{s:Sem Value}(he:execOp ρ o=(do pure (.value (←s))))(h:∃v,k v∧∀w,Own g H w→s.run P w=.ok v w):Reads P g o ρ H k:=by
 obtain⟨v,hk,hr⟩:=h
 refine⟨v,hk,fun w hw=>?_⟩
 rw[he]
 simp only[Sem.run_bind,hr w hw,Result.andThen_ok,Sem.run_pure]
theorem m8.reads{o:Oper}{ρ:Operand→Value}{k:Value→Prop}(h:m8 P g o ρ H k):Reads P g o ρ H k:=let ⟨v,h1,h2⟩:=h;⟨v,h2,h1⟩
theorem Pa{s:Sem Value}{k:Value→Prop}{C:(Value→Prop)→Prop}(Uy:∃v,k v∧C (· =v))(hrun:∀(k:Value→Prop),C k→∀w,Own g H w→∃v,s.run P w=.ok v w∧k v):
  ∃v,k v∧∀w,Own g H w→s.run P w=.ok v w:=by
 obtain⟨v,hk,hc⟩:=Uy
 refine⟨v,hk,fun w hw=>?_⟩
 obtain⟨u,hr,rfl⟩:=hrun _ hc w hw
 exact hr
theorem bF{t:TypeId}{n:Nat}(h:cT P t=some n):∃i,P.info? t=some i∧i.size=n:=by
 unfold cT at h
 split at h
 ·rename_i i hi;exact⟨i,hi,by simpa using h⟩
 ·simp at h
theorem cJ{t:TypeId}{z:Value}(h:dR P t=some z):∃i,P.info? t=some i∧i.zero=some z:=by
 unfold dR at h
 split at h
 ·rename_i i hi;exact⟨i,hi,by simpa using h⟩
 ·simp at h
theorem iS{o:Oper}{ρ:Operand→Value}{k:Value→Prop}(h:yg P g o ρ H k):Reads P g o ρ H k:=by
 obtain⟨dst,op,type,pos,after,guard⟩:=o
 cases op<;>simp only[yg]at h
 case move x=>exact⟨_,h,fun w _=>rfl⟩
 case assign x=>exact⟨_,h,fun w _=>rfl⟩
 case pick c a b=>
  obtain⟨t,hc,hk⟩:=h
  refine⟨_,hk,fun w _=>?_⟩
  cases t<;>simp[execOp,hc,asBool]
 case load t a=>
  split at h
  ·rename_i d n hd hn
   obtain⟨i,hi,hin⟩:=bF hn
   refine Reads.mk (s:=Instr.loadAt t (ρ a)) rfl ?_
   cases ha:cr d<;>simp only[ha,cond_true,cond_false]at h
   ·exact Pa h.fix fun k hk w hw=>hk.run hw hd ha
   ·exact Pa h.fix fun k hk w hw=>hk.run hw hd ha hi hin
  ·exact h.elim
 case nilCheck x=>
  obtain⟨v,hv,hk⟩:=h
  refine⟨v,hk,fun w _=>?_⟩
  unfold Sg at hv
  simp only[execOp]
  split at hv<;>simp only[Option.some.injEq,reduceCtorEq]at hv<;>subst hv<;>simp_all
 case binOp op t x y yt=>
  split at h
  ·rename_i d hd
   split at h
   ·exact h.reads
   ·rename_i Py
    refine Reads.mk (s:=do eqGuard op t x y (ρ x) (ρ y);binOp op t (ρ x) (ρ y)) rfl ?_
    obtain⟨v,hv,hk⟩:=h
    exact⟨v,hk,fun w _=>by
     obtain⟨u,hr,rfl⟩:=aa.run (P:=P) (k:=(· =v)) ⟨v,hv,rfl⟩ w (ox:=x) (oy:=y) hd rfl
     exact hr⟩
  ·exact h.elim
 case unOp op t x=>
  obtain⟨v,hv,hk⟩:=h
  refine Reads.mk (s:=Op.unary op (ρ x)) rfl ⟨v,hk,fun w _=>?_⟩
  obtain⟨u,hr,rfl⟩:=Un.run (P:=P) (k:=(· =v)) ⟨v,hv,rfl⟩ w
  exact hr
 case convert s d x=>
  split at h
  ·rename_i ds kd hs hd
   obtain⟨j,n,hx,hk⟩:=h
   refine Reads.mk (s:=Go.convert s d (ρ x)) rfl ⟨_,hk,fun w _=>?_⟩
   obtain⟨u,hr,rfl⟩:=bf.run (P:=P) (kd:=kd) (k:=(· =_)) ⟨j,n,hx,rfl⟩ w hs hd rfl
   exact hr
  ·rename_i e hs hd
   split at h
   ·rename_i he
    refine Reads.mk (s:=Go.convert s d (ρ x)) rfl ?_
    have:∀w,(Go.convert s d (ρ x)).run P w=(Conv.bytesToString (ρ x)).run P w:=fun w=>by
     obtain⟨base,n,c,bs,hx,_⟩:=h
     simp only[Go.convert,Sem.run_bind,run_underlying hs,run_underlying hd,Result.andThen_ok,hx,run_underlying he]
    simp only[this]
    exact Pa h.fix fun k hk w hw=>hk.run hw
   ·exact h.reads
  ·exact h.reads
 case index t x i=>
  split at h
  ·rename_i ht
   obtain⟨s,kd,j,b,hx,hi,h0,hb,hk⟩:=h
   refine Reads.mk (s:=Instr.index t (ρ x) (ρ i)) rfl ⟨_,hk,fun w _=>?_⟩
   simp[Instr.index,run_underlying ht,hx,hi,asIntOf,h0,hb]
  ·exact h.reads
 case fieldAddr s x f=>
  split at h<;>try exact h.elim
  rename_i fs hs
  split at h<;>try exact h.elim
  rename_i fl hf
  split at h<;>try exact h.elim
  rename_i m hm
  obtain⟨i,hi,hin⟩:=bF hm
  obtain⟨b,o,hx,hk⟩:=h
  refine Reads.mk (s:=Instr.fieldAt s (ρ x) f) rfl ⟨_,hk,fun w _=>?_⟩
  obtain⟨u,hr,rfl⟩:=ag.run (P:=P) (k:=(· =_)) ⟨b,o,hx,rfl⟩ w hs hf hi (by omega) rfl
  exact hr
 case field s x f=>
  split at h<;>try exact h.elim
  rename_i fs hs
  split at h<;>try exact h.elim
  rename_i fl hf
  split at h<;>try exact h.elim
  rename_i d n hd hn
  obtain⟨i,hi,hin⟩:=bF hn
  refine Reads.mk (s:=Instr.field s (ρ x) f) rfl ?_
  cases ha:cr d<;>simp only[ha,cond_true,cond_false]at h
  ·obtain⟨cs,v,hx,hv,hk⟩:=h
   refine⟨v,hk,fun w _=>?_⟩
   obtain⟨u,hr,rfl⟩:=yA.run (P:=P) (k:=(· =v)) ⟨cs,v,hx,hv,rfl⟩ w hs hf hd ha rfl
   exact hr
  ·obtain⟨cs,hx,hk⟩:=h
   refine⟨_,hk,fun w _=>?_⟩
   obtain⟨u,hr,rfl⟩:=Mf.run (P:=P) (k:=(· =_)) ⟨cs,hx,rfl⟩ w hs hf hd ha hi hin rfl
   exact hr
 case indexAddr t x ix=>
  refine Reads.mk (s:=Instr.indexAt t (ρ x) (ρ ix)) rfl ?_
  split at h
  ·rename_i e ht
   split at h<;>try exact h.elim
   rename_i n hn
   obtain⟨i,hi,hin⟩:=bF hn
   obtain⟨b,o,n',c,kd,j,hx,Um,h0,h1,hk⟩:=h
   refine⟨_,hk,fun w _=>?_⟩
   obtain⟨u,hr,rfl⟩:=aj.run (P:=P) (k:=(· =_)) ⟨b,o,n',c,kd,j,hx,Um,h0,h1,rfl⟩ w ht hi hin
   exact hr
  ·rename_i len e ht
   split at h<;>try exact h.elim
   rename_i n hn
   obtain⟨i,hi,hin⟩:=bF hn
   obtain⟨b,o,kd,j,hx,Um,h0,h1,hk⟩:=h
   refine⟨_,hk,fun w _=>?_⟩
   obtain⟨u,hr,rfl⟩:=ye.run (P:=P) (k:=(· =_)) ⟨b,o,kd,j,hx,Um,h0,h1,rfl⟩ w ht hi hin
   exact hr
  ·exact h.elim
 case slice t x lo hi mx=>
  cases mx with
  |some m=>simp only at h;exact h.reads
  |none=>
   simp only at h
   split at h
   ·rename_i e ht
    split at h<;>try exact h.elim
    rename_i n hn
    obtain⟨i,hi',hin⟩:=bF hn
    obtain⟨a,n',c,l,hh,hx,hl,oz,h0,h1,h2,hk⟩:=h
    refine Reads.mk (s:=Instr.sliceAt t (ρ x) (lo.map ρ) (hi.map ρ) none) rfl ⟨_,hk,fun w _=>?_⟩
    obtain⟨u,hr,rfl⟩:=di.run (P:=P) (k:=(· =_)) ⟨a,n',c,l,hh,hx,hl,oz,h0,h1,h2,rfl⟩ w ht hi' hin
    exact hr
   ·exact h.reads
 case extract t i=>
  obtain⟨vs,v,hx,hv,hk⟩:=h
  refine Reads.mk (s:=Instr.extract (ρ t) i) rfl ⟨v,hk,fun w _=>?_⟩
  obtain⟨u,hr,rfl⟩:=Ext.run (P:=P) (k:=(· =v)) ⟨vs,v,hx,hv,rfl⟩ w
  exact hr
 case lookup t m key ok=>
  split at h<;>try exact h.elim
  rename_i kt e ht
  split at h<;>try exact h.elim
  rename_i kd z CY hz
  obtain⟨i,hi,sN⟩:=cJ hz
  cases hp:plainKey kd<;>simp only[hp,cond_true,cond_false]at h
  ·cases iJ:cr kd<;>simp only[iJ,cond_true,cond_false]at h
   ·exact h.reads
   ·exact Reads.mk (s:=Instr.lookup t (ρ m) (ρ key) ok) rfl (Pa h.fix fun k hk w hw=>hk.run hw ht CY iJ hi sN)
  ·exact Reads.mk (s:=Instr.lookup t (ρ m) (ρ key) ok) rfl (Pa h.fix fun k hk w hw=>hk.run hw ht CY hp hi sN)
 case makeFunc fn a b=>
  refine⟨_,h,fun w _=>?_⟩
  simp[execOp,Instr.makeFunc,mapList]
 case build t parts=>
  obtain⟨v,hr,hk⟩:=h
  refine Reads.mk (s:=Instr.build t (parts.map fun(i,x)=>(i,ρ x))) rfl ⟨v,hk,fun w _=>?_⟩
  have:=hr w
  rw[mapList (fun p:Nat×Operand=>(p.1,ρ p.2)) parts]at this
  exact this
 case makeInterface t x=>
  split at h
  ·exact h.elim
  ·rename_i d Of hd
   refine Reads.mk (s:=Instr.makeInterface t (ρ x)) rfl ⟨_,h,fun w _=>?_⟩
   simp only[Instr.makeInterface,Sem.run_bind,run_underlying hd,Result.andThen_ok]
   cases d<;>first|rfl|exact absurd hd (Of _)
  ·exact h.elim
 case call c=>
  obtain⟨callee,args,argTypes⟩:=c
  cases callee with
  |value f=>simp only at h
  |invoke r m=>simp only at h
  |builtin b=>
   cases b<;>simp only at h<;>try exact h.reads
   case max=>
    split at h<;>try exact h.reads
    rename_i x y t t' hx ht
    split at h<;>try exact h.reads
    have hx:=x6 hx
    have ht:=x6 ht
    subst hx;subst ht
    obtain⟨kd,a,b,h1,h2,hk⟩:=h
    refine Reads.mk (s:=Builtin.max_ #[t,t'] type #[ρ x,ρ y]) (by simp[execOp,resolve,invoke,builtin,bind,Sem.bind];rfl) ⟨_,hk,fun w _=>?_⟩
    simp[Builtin.max_,Builtin.max2,h1,h2]
   case min=>
    split at h<;>try exact h.reads
    rename_i x y t t' hx ht
    split at h<;>try exact h.reads
    have hx:=x6 hx
    have ht:=x6 ht
    subst hx;subst ht
    obtain⟨kd,a,b,h1,h2,hk⟩:=h
    refine Reads.mk (s:=Builtin.min_ #[t,t'] type #[ρ x,ρ y]) (by simp[execOp,resolve,invoke,builtin,bind,Sem.bind];rfl) ⟨_,hk,fun w _=>?_⟩
    simp[Builtin.min_,Builtin.min2,h1,h2]
   split at h<;>try exact h.elim
   rename_i x t hx ht
   have hx:=R7 hx
   have ht:=R7 ht
   subst hx;subst ht
   split at h
   ·rename_i e hd
    refine Reads.mk (s:=Builtin.len_ #[t] type #[ρ x]) (by simp[execOp,resolve,invoke,builtin,bind,Sem.bind];rfl) ?_
    obtain⟨a,n,c,hx,hk⟩:=h
    refine⟨_,hk,fun w _=>?_⟩
    obtain⟨u,hr,rfl⟩:=aA.run (P:=P) (k:=(· =_)) ⟨a,n,c,hx,rfl⟩ w (ty:=type) hd
    exact hr
   ·rename_i e e' hd
    refine Reads.mk (s:=Builtin.len_ #[t] type #[ρ x]) (by simp[execOp,resolve,invoke,builtin,bind,Sem.bind];rfl) ?_
    exact Pa h.fix fun k hk w hw=>hk.run hw hd
   ·rename_i hd
    refine Reads.mk (s:=Builtin.len_ #[t] type #[ρ x]) (by simp[execOp,resolve,invoke,builtin,bind,Sem.bind];rfl) ?_
    obtain⟨s,hx,hk⟩:=h
    exact⟨_,hk,fun w _=>by simp[Builtin.len_,run_underlying hd,hx,goInt]⟩
   ·exact h.reads
 all_goals exact h.reads
def valOf(o:Oper)(ρ:Operand→Value)(v:Value):Prop:=
 match o.op with
 | .move x=>v=ρ x
 | .assign x=>v=ρ x
 | .pick c a b=>∀t,ρ c=.bool t→v=cond t (ρ a) (ρ b)
 |_=>True
theorem k9{o:Oper}{ρ:Operand→Value}{k:Value→Prop}(h:yg P g o ρ H k):∃v,k v∧(∀w,Own g H w→(execOp ρ o).run P w=.ok (.value v) w)∧valOf o ρ v:=by
 obtain⟨dst,op,type,pos,after,guard⟩:=o
 cases op
 case move x=>exact⟨_,h,fun w _=>rfl,rfl⟩
 case assign x=>exact⟨_,h,fun w _=>rfl,rfl⟩
 case pick c a b=>
  obtain⟨t,hc,hk⟩:=h
  refine⟨_,hk,fun w _=>?_,fun t' ht'=>?_⟩
  ·cases t<;>simp[execOp,hc,asBool]
  ·rw[hc]at ht';simp only[Value.bool.injEq]at ht';subst ht';rfl
 all_goals
  obtain⟨v,hk,hr⟩:=iS h
  exact⟨v,hk,hr,trivial⟩
end
end Go.Sx
namespace Go.Sx
open Go
section
variable {P:Program} {g:Gh} {H:Hp} {K:Value→Hp→Prop} {KP:List PanicEntry→Hp→Prop}
def an(P:Program)(t len:Nat)(parts:List (Nat×Value))(H:Hp)(k:Value→Hp→Prop):Prop:=
 ∃cs,(∃e n z,P.underlying t=some (.slice e)∧cT P e=some n∧dR P e=some z∧len*n≤2^24∧
   Instr.fill (fun i=>some (i*n,n)) ((Array.range (len*n)).map (z.cells[· %z.cells.size]!)) parts=some cs∧
   dP H (.cells cs e (0,0)) fun b H'=>k (.slice (some ⟨b,0,none⟩) len len) H')
def JL(P:Program)(g:Gh)(o:Oper)(ρ:Operand→Value)(H:Hp)(K:Value→Hp→Prop)(KP:List PanicEntry→Hp→Prop):Prop:=
 match o.op with
 | .alloc t=>match dR P t with
  |some z=>dP H (.cells z.cells t (0,0)) fun b H'=>K (.pointer (some ⟨b,0,none⟩)) H'
  |none=>False
 | .box t x=>dP H (.cells (ρ x).cells t (0,0)) fun b H'=>K (.pointer (some ⟨b,0,none⟩)) H'
 | .store t a x=>match cT P t with
  |some n=>St n H (ρ a) (ρ x) fun H'=>K undef H'
  |none=>False
 | .buildSlice t len parts=>an P t len (parts.toList.map fun p=>(p.1,ρ p.2)) H K
 | .makeMap _ none=>mD H K
 | .makeSlice t l c=>match P.underlying t with
  |some (.slice e)=>match cT P e,rV P e,dR P e with
   |some n,some b,some z=>br e n b z H (ρ l) (ρ c) K
   |_,_,_=>False
  |_=>False
 | .mapUpdate t m key x=>match P.underlying t with
  |some (.map kt _)=>match P.underlying kt with
   |some kd=>cond (plainKey kd) (ez kd H (ρ m) (ρ key) (ρ x) fun H'=>K undef H') (cond (cr kd) (jN P kt H (ρ m) (ρ key) (ρ x) fun H'=>K undef H') (kU P g o ρ H K KP))
   |none=>False
  |_=>False
 | .insert t m key x=>match P.underlying t with
  |some (.map kt _)=>match P.underlying kt with
   |some kd=>cond (plainKey kd) (ez kd H (ρ m) (ρ key) (ρ x) fun H'=>K undef H') (cond (cr kd) (jN P kt H (ρ m) (ρ key) (ρ x) fun H'=>K undef H') (kU P g o ρ H K KP))
   |none=>False
  |_=>False
 | .range t x=>match P.underlying t with
  |some (.map _ _)=>Sf H (ρ x) K
  |_=>kU P g o ρ H K KP
 | .next it false=>PF H (ρ it) K
 | .entry it=>JG H (ρ it) fun v=>K v H
 | .call c=>
  match c.callee with
  | .value (.func f)=>cond (cC P f) (ae P g f (c.args.toList.map ρ).toArray H K KP) (kU P g o ρ H K KP)
  | .value f=>gk P g (ρ f) (c.args.toList.map ρ).toArray H K KP
  | .builtin .append=>
   match c.args.toList,c.argTypes.toList with
   | [s,x],[t,t']=>match P.underlying t,P.underlying t' with
    |some (.slice e),some (.slice _)=>match cT P e,rV P e,dR P e with
     |some n,some b,some z=>App P e n b z H (ρ s) (ρ x) K
     |_,_,_=>False
    |_,_=>kU P g o ρ H K KP
   |_,_=>False
  | .builtin .delete=>
   match c.args.toList,c.argTypes.toList with
   | [m,key],[t,_]=>match P.underlying t with
    |some (.map kt _)=>match P.underlying kt with
     |some kd=>cond (plainKey kd) (si kd H (ρ m) (ρ key) fun H'=>K (.tuple #[]) H') (cond (cr kd) (oq P kt H (ρ m) (ρ key) fun H'=>K (.tuple #[]) H') (kU P g o ρ H K KP))
     |none=>False
    |_=>False
   |_,_=>kU P g o ρ H K KP
  |_=>kU P g o ρ H K KP
 |_=>kU P g o ρ H K KP
theorem kM{t:TypeId}{n:Nat}(h:rV P t=some n):∃i,P.info? t=some i∧i.bytes=n:=by
 unfold rV at h
 split at h
 ·rename_i i hi;exact⟨i,hi,by simpa using h⟩
 ·simp at h
theorem kU.ofValue{o:Oper}{ρ:Operand→Value}{s:Sem Value}(he:execOp ρ o=(do pure (.value (←s))))(h:∀w,Own g H w→∃v w' H',s.run P w=.ok v w'∧Own g H' w'∧K v H'):kU P g o ρ H K KP:=by
 intro w hw
 obtain⟨v,w',H',hr,ho,hk⟩:=h w hw
 rw[he]
 simp only[Sem.run_bind,hr,Result.andThen_ok,Sem.run_pure]
 exact⟨H',ho,hk⟩
theorem kU.oH{o:Oper}{ρ:Operand→Value}{s:Sem Unit}(he:execOp ρ o=(do s;pure .skip))(h:∀w,Own g H w→∃w' H',s.run P w=.ok () w'∧Own g H' w'∧K undef H'):kU P g o ρ H K KP:=by
 intro w hw
 obtain⟨w',H',hr,ho,hk⟩:=h w hw
 rw[he]
 simp only[Sem.run_bind,hr,Result.andThen_ok,Sem.run_pure]
 exact⟨H',ho,hk⟩
theorem eo{f:FuncId}(h:cC P f=true)(args:Array Value)(w:World):(callFunc f args).run P w=.ok (.enter f args) w:=by
 unfold cC at h
 split at h
 ·simp at h
 ·rename_i fn hf
  simp only[Bool.and_eq_true,Bool.not_eq_true']at h
  obtain⟨h1,h2⟩:=h
  have h3:fn.body.isNone=false:=by cases hb:fn.body<;>simp_all
  simp only[callFunc,Sem.run_bind,run_program,Result.andThen_ok,hf,show(fn.name== "runtime.NumGoroutine")=false from h1,h3,Bool.false_eq_true,if_false]
  rfl
theorem gk.op{o:Oper}{c:Call}{ρ:Operand→Value}{x:Operand}(ho:o.op=.call c)(hc:c.callee=.value x)(h:gk P g (ρ x) (c.args.toList.map ρ).toArray H K KP):kU P g o ρ H K KP:=by
 obtain⟨f,first,captured,hf,jt,M0⟩:=h
 rw[mapList]at M0
 intro w hw
 have hr:(execOp ρ o).run P w=.ok (.enter f (first++c.args.map ρ++captured)) w:=by
  simp only[execOp,ho,resolve,hc,Deferred.ofValue,hf,invoke]
  show(callFunc f (first++c.args.map ρ++captured)).run P w=_
  exact eo jt _ w
 rw[hr]
 exact M0 w hw
theorem qM{o:Oper}{ρ:Operand→Value}(hρ:∀f,ρ (.func f)=.func (.func f) #[] #[])(h:JL P g o ρ H K KP):kU P g o ρ H K KP:=by
 unfold JL at h
 split at h
 case h_1 t hop=>
  split at h
  ·rename_i z hz
   obtain⟨i,hi,sN⟩:=cJ hz
   refine kU.ofValue (s:=Instr.alloc t true (.tuple #[])) (by simp only[execOp,hop]) fun w hw=>⟨_,_,_,?_,hw.alloc _,h _ hw.fresh⟩
   simp[Instr.alloc,dU hi sN,newVar,newRow]
  ·exact h.elim
 case h_2 t x hop=>
  refine kU.ofValue (s:=Instr.box t (ρ x)) (by simp only[execOp,hop]) fun w hw=>⟨_,_,_,?_,hw.alloc _,h _ hw.fresh⟩
  simp[Instr.box,newVar,newRow]
 case h_3 t a x hop=>
  split at h
  ·rename_i n hn
   obtain⟨i,hi,hin⟩:=bF hn
   exact kU.oH (s:=Instr.storeAt t (ρ a) (ρ x)) (by simp only[execOp,hop]) fun w hw=>h.run hw hi hin
  ·exact h.elim
 case h_4 t len parts hop=>
  obtain⟨cs,e,n,z,ht,hn,hz,hl,hf,hk⟩:=h
  obtain⟨i,hi,hin⟩:=bF hn
  obtain⟨i',hi',sN⟩:=cJ hz
  have:i'=i:=Option.some.inj (hi'.symm.trans hi)
  subst this
  subst hin
  refine kU.ofValue (s:=Instr.buildSlice t len (parts.map fun(i,x)=>(i,ρ x))) (by simp only[execOp,hop]) fun w hw=>⟨_,_,_,?_,hw.alloc _,hk _ hw.fresh⟩
  have hl':¬(len*i'.size>2^24):=by omega
  have nj:(parts.map fun(x:Nat×Operand)=>(x.1,ρ x.2)).toList=parts.toList.map fun p=>(p.1,ρ p.2):=by rw[Array.toList_map]
  by_cases h0:len*i'.size=0
  ·simp only[Instr.buildSlice,Sem.run_bind,run_underlying ht,Result.andThen_ok,run_sizeOf hi,hl',if_false,h0,if_true,Sem.run_pure]
   rw[h0]at hf
   have Et:Array.range 0=#[]:=rfl
   simp only[Et,Array.map_empty,List.map_toArray,List.map_nil]at hf⊢
   rw[nj,hf]
   simp[newRow]
  ·simp only[Instr.buildSlice,Sem.run_bind,run_underlying ht,Result.andThen_ok,run_sizeOf hi,hl',if_false,h0,dU hi sN,Sem.run_pure]
   simp[hf,newRow]
 case h_5 t hop=>
  refine kU.ofValue (s:=Instr.makeMap t none) (by simp only[execOp,hop];rfl) fun w hw=>⟨_,_,_,?_,hw.alloc _,h _ hw.fresh⟩
  simp[Instr.makeMap]
 case h_6 t l c hop=>
  split at h<;>try exact h.elim
  rename_i e ht
  split at h<;>try exact h.elim
  rename_i n b z hn hb hz
  obtain⟨i,hi,hin⟩:=bF hn
  obtain⟨i',hi',sN⟩:=cJ hz
  obtain⟨i2,mr,ry⟩:=kM hb
  have e1:i'=i:=Option.some.inj (hi'.symm.trans hi)
  have e2:i2=i:=Option.some.inj (mr.symm.trans hi)
  subst e1;subst e2
  exact kU.ofValue (s:=Instr.makeSlice t (ρ l) (ρ c)) (by simp only[execOp,hop]) fun w hw=>h.run hw ht hi sN hin ry
 case h_7 t m key x hop=>
  split at h<;>try exact h.elim
  rename_i kt e ht
  split at h<;>try exact h.elim
  rename_i kd CY
  cases hp:plainKey kd<;>simp only[hp,cond_true,cond_false]at h
  ·cases iJ:cr kd<;>simp only[iJ,cond_true,cond_false]at h
   ·exact h
   ·exact kU.oH (s:=Instr.mapUpdate t (ρ m) (ρ key) (ρ x)) (by simp only[execOp,hop]) fun w hw=>h.run hw ht CY iJ
  ·exact kU.oH (s:=Instr.mapUpdate t (ρ m) (ρ key) (ρ x)) (by simp only[execOp,hop]) fun w hw=>h.run hw ht CY hp
 case h_8 t m key x hop=>
  split at h<;>try exact h.elim
  rename_i kt e ht
  split at h<;>try exact h.elim
  rename_i kd CY
  cases hp:plainKey kd<;>simp only[hp,cond_true,cond_false]at h
  ·cases iJ:cr kd<;>simp only[iJ,cond_true,cond_false]at h
   ·exact h
   ·exact kU.oH (s:=Instr.mapUpdate t (ρ m) (ρ key) (ρ x)) (by simp only[execOp,hop]) fun w hw=>h.run hw ht CY iJ
  ·exact kU.oH (s:=Instr.mapUpdate t (ρ m) (ρ key) (ρ x)) (by simp only[execOp,hop]) fun w hw=>h.run hw ht CY hp
 case h_9 t x hop=>
  split at h
  ·rename_i kt e ht
   exact kU.ofValue (s:=Instr.range t (ρ x)) (by simp only[execOp,hop]) fun w hw=>h.run hw ht
  ·exact h
 case h_10 it hop=>
  exact kU.ofValue (s:=Instr.next (ρ it) false o.type) (by simp only[execOp,hop]) fun w hw=>h.run hw
 case h_11 it hop=>
  exact kU.ofValue (s:=Instr.entry (ρ it)) (by simp only[execOp,hop]) fun w hw=>let ⟨v,hr,hk⟩:=h.run hw;⟨v,w,H,hr,hw,hk⟩
 case h_12 c hop=>
  split at h
  ·rename_i f hc
   cases jt:cC P f<;>simp only[jt,cond_true,cond_false]at h
   ·exact h
   ·rw[mapList]at h
    intro w hw
    have hr:(execOp ρ o).run P w=.ok (.enter f (c.args.map ρ)) w:=by
     simp only[execOp,hop,resolve,hc,Deferred.ofValue,hρ,invoke]
     show(callFunc f ((#[]++c.args.map ρ)++ #[])).run P w=_
     rw[Array.empty_append,Array.append_empty]
     exact eo jt _ w
    rw[hr]
    exact h w hw
  ·rename_i x _ hc
   exact gk.op hop hc h
  ·rename_i hc
   split at h<;>try exact h.elim
   rename_i s x t t' hx ht
   have hx:=x6 hx
   have ht:=x6 ht
   split at h
   ·rename_i e e' hd dm
    split at h<;>try exact h.elim
    rename_i n b z hn hb hz
    obtain⟨i,hi,hin⟩:=bF hn
    obtain⟨i',hi',sN⟩:=cJ hz
    obtain⟨i2,mr,ry⟩:=kM hb
    have e1:i'=i:=Option.some.inj (hi'.symm.trans hi)
    have e2:i2=i:=Option.some.inj (mr.symm.trans hi)
    subst e1;subst e2
    refine kU.ofValue (s:=Builtin.append_ #[t,t'] o.type #[ρ s,ρ x]) ?_ fun w hw=>h.run hw hd ⟨_,dm⟩ hi sN hin ry
    simp only[execOp,hop,resolve,hc,hx,ht,invoke,builtin]
    simp[bind,Sem.bind];rfl
   ·exact h
  ·rename_i hc
   split at h
   ·rename_i m key t t' hx ht
    have hx:=x6 hx
    have ht:=x6 ht
    split at h<;>try exact h.elim
    rename_i kt e hd
    split at h<;>try exact h.elim
    rename_i kd CY
    cases hp:plainKey kd<;>simp only[hp,cond_true,cond_false]at h
    ·cases iJ:cr kd<;>simp only[iJ,cond_true,cond_false]at h
     ·exact h
     ·refine kU.ofValue (s:=Builtin.delete_ #[t,t'] o.type #[ρ m,ρ key]) ?_ fun w hw=>?_
      ·simp only[execOp,hop,resolve,hc,hx,ht,invoke,builtin]
       simp[bind,Sem.bind];rfl
      ·obtain⟨w',H',hr,ho,hk⟩:=h.run (P:=P) hw (as:=#[t,t']) (ty:=o.type) rfl hd CY iJ
       exact⟨_,w',H',hr,ho,hk⟩
    ·refine kU.ofValue (s:=Builtin.delete_ #[t,t'] o.type #[ρ m,ρ key]) ?_ fun w hw=>?_
     ·simp only[execOp,hop,resolve,hc,hx,ht,invoke,builtin]
      simp[bind,Sem.bind];rfl
     ·obtain⟨w',H',hr,ho,hk⟩:=h.run (P:=P) hw (as:=#[t,t']) (ty:=o.type) rfl hd CY hp
      exact⟨_,w',H',hr,ho,hk⟩
   ·exact h
  ·exact h
 all_goals exact h
end
end Go.Sx
namespace Go.Sx
open Go
section
variable {P:Program} {g:Gh} {ds:List Deferred}
def q8:Op→Bool
 | .move _| .assign _| .pick .. | .load .. | .nilCheck _| .binOp .. | .unOp .. | .convert .. | .fieldAddr .. | .field .. | .indexAddr .. | .index .. | .slice .. | .extract .. | .lookup .. | .makeFunc .. | .build .. | .makeInterface ..
 | .typeAssert .. =>true
 | .call c=>match c.callee with
  | .builtin .len| .builtin .cap| .builtin .min| .builtin .max=>true
  |_=>false
 |_=>false
def No(P:Program)(g:Gh)(f:FuncId)(args:Array Value)(H:Hp)(k:Value→Prop):Prop:=
 ∃v,bZ P g f args H (fun e H'=>e=.returned v∧H'=H)∧k v
def Tz(P:Program)(g:Gh)(o:Oper)(ρ:Operand→Value)(H:Hp)(k:Value→Prop):Prop:=
 match o.op with
 | .call c=>match c.callee with
  | .value (.func f)=>cond (cC P f) (No P g f (c.args.toList.map ρ).toArray H k) False
  | .value x=>∃f first captured,ρ x=.func (.func f) first captured∧cC P f=true∧No P g f (first++(c.args.toList.map ρ).toArray++captured) H k
  |_=>False
 |_=>False
def cf:Option (Nat×Bool)→Option (Nat×Bool)→Bool
 |none,none=>true
 |some (i,a),some (j,b)=>Nat.beq i j&& (a==b)
 |_,_=>false
theorem gv{x y:Option (Nat×Bool)}(h:cf x y=true):x=y:=by
 cases x with
 |none=>cases y<;>simp_all[cf]
 |some a=>
  obtain⟨i,a⟩:=a
  cases y with
  |none=>simp[cf]at h
  |some b=>
   obtain⟨j,b⟩:=b
   simp only[cf,Bool.and_eq_true,beq_iff_eq]at h
   rw[Nat.eq_of_beq_eq_true h.1,h.2]
def fy(cur:Option (Nat×Bool)):List Oper→List Oper
 | []=>[]
 |o::r=>cond (cf o.guard cur) [] (o::fy cur r)
def gi(cur:Option (Nat×Bool)):List Oper→List Oper
 | []=>[]
 |o::r=>cond (cf o.guard cur) (o::r) (gi cur r)
theorem pw(cur:Option (Nat×Bool))(l:List Oper):fy cur l++gi cur l=l:=by
 induction l with
 |nil=>rfl
 |cons o r ih=>simp only[fy,gi];cases cf o.guard cur<;>simp[ih]
def py:List Oper→Fr→Fr
 | [],fr=>fr
 |o::r,fr=>py r (bS fr o.dst undef)
def bA:List Oper→Nat→Bool
 | [],_=>false
 |o::r,s=>(match o.dst with|some d=>Nat.beq s d|none=>false)||bA r s
def fT(n:Nat):List Oper→Bool
 | []=>true
 |o::r=>dA n o.dst&&fT n r
def u6(G:List Oper)(gs fr:Fr):Fr:=fun s=>cond (bA G s) (gs s) (fr s)
def mT(p:Oper)(fr:Fr):Value:=
 match p.op with
 | .pick c a b=>match ev fr c with
  | .bool t=>cond t (ev fr a) (ev fr b)
  |_=>undef
 |_=>undef
def oN(p:Oper):Bool:=match p.op with| .pick .. =>true|_=>false
def dG(ops:Array Oper)(j:Nat):Option Nat:=match ops[j]? with|some oj=>oj.dst|none=>none
def j9(ops:Array Oper)(s:Nat)(want:Bool):List Nat→List Oper→Bool
 |_,[]=>true
 |seen,o::r=>
  (match o.guard with
  |none=>false
  |some (j,w)=>match dG ops j with
   |none=>false
   |some t=>(Nat.beq t s&& (w==want))||seen.any (Nat.beq t)) &&
  j9 ops s want (match o.dst with|some d=>d::seen|none=>seen) r
def dO(v:Value)(want:Bool)(inner els k:Bool→Prop):Prop:=∃a t:Bool,v=.bool a∧(a=want→inner t)∧(a= !want→els t)∧k t
def Split(v:Value)(want:Bool)(k1 k2:Prop):Prop:=∃a:Bool,v=.bool a∧(a=want→k1)∧(a= !want→k2)
def iX:List (Nat×Bool)→Nat→Option Bool
 | [],_=>none
 |(t,b)::r,s=>cond (Nat.beq t s) (some b) (iX r s)
def jP:List (Nat×Bool)→Option Nat→List (Nat×Bool)
 |kn,none=>kn
 | [],some _=>[]
 |(t,b)::r,some d=>cond (Nat.beq t d) (jP r (some d)) ((t,b)::jP r (some d))
def jB:List (Nat×Bool)→List Oper→List (Nat×Bool)
 |kn,[]=>kn
 |kn,o::r=>jB (jP kn o.dst) r
def nU(kn:List (Nat×Bool)):Operand→Option Bool
 | .const (.bool b)=>some b
 | .tmp t=>iX kn t
 |_=>none
def NS(kn:List (Nat×Bool))(o:Oper):Option Bool:=
 match o.op with
 | .move x=>nU kn x
 | .assign x=>nU kn x
 | .pick c a b=>match nU kn c with
  |some true=>nU kn a
  |some false=>nU kn b
  |none=>none
 |_=>none
def NQ(kn:List (Nat×Bool))(o:Oper):List (Nat×Bool):=
 match NS kn o,o.dst with
 |some b,some d=>(d,b)::jP kn (some d)
 |_,d=>jP kn d
def fX(kn:List (Nat×Bool))(fr:Fr):Prop:=∀s b,iX kn s=some b→fr s=.bool b
theorem fX.nil(fr:Fr):fX [] fr:=fun s b h=>by simp[iX]at h
theorem tI{kn:List (Nat×Bool)}{d s:Nat}{b:Bool}(h:iX (jP kn (some d)) s=some b):s≠d∧iX kn s=some b:=by
 induction kn with
 |nil=>simp[jP,iX]at h
 |cons x r ih=>
  obtain⟨t,c⟩:=x
  simp only[jP]at h
  cases hb:Nat.beq t d<;>simp only[hb,cond_true,cond_false]at h
  ·simp only[iX]at h⊢
   cases hs:Nat.beq t s<;>simp only[hs,cond_true,cond_false]at h⊢
   ·exact ih h
   ·refine⟨fun e=>?_,h⟩
    have:=Nat.eq_of_beq_eq_true hs
    subst this;subst e;simp at hb
  ·have h':=ih h
   refine⟨h'.1,?_⟩
   simp only[iX]
   have:=Nat.eq_of_beq_eq_true hb
   subst this
   cases hs:Nat.beq t s
   ·exact h'.2
   ·exact absurd (Nat.eq_of_beq_eq_true hs).symm h'.1
theorem fX.del{kn:List (Nat×Bool)}{fr:Fr}(h:fX kn fr)(d:Option Nat)(v:Value):fX (jP kn d) (bS fr d v):=by
 cases d with
 |none=>cases kn<;>exact h
 |some d=>
  intro s b hs
  obtain⟨h1,h2⟩:=tI hs
  simp only[bS]
  cases hb:Nat.beq s d
  ·exact h s b h2
  ·exact absurd (Nat.eq_of_beq_eq_true hb) h1
theorem fX.put{kn:List (Nat×Bool)}{fr:Fr}(h:fX kn fr){s:Nat}{b:Bool}(hs:fr s=.bool b):fX ((s,b)::kn) fr:=by
 intro t c ht
 simp only[iX]at ht
 cases hb:Nat.beq s t<;>simp only[hb,cond_true,cond_false]at ht
 ·exact h t c ht
 ·have:=Nat.eq_of_beq_eq_true hb;subst this;simp only[Option.some.injEq]at ht;subst ht;exact hs
theorem iW{kn:List (Nat×Bool)}{fr:Fr}(h:fX kn fr){x:Operand}{b:Bool}(hx:nU kn x=some b):ev fr x=.bool b:=by
 cases x with
 |tmp t=>exact h t b hx
 |const v=>cases v<;>simp[nU]at hx;subst hx;rfl
 |global g=>simp[nU]at hx
 |func f=>simp[nU]at hx
theorem K9{kn:List (Nat×Bool)}{fr:Fr}(h:fX kn fr){o:Oper}{v:Value}(hv:valOf o (ev fr) v){b:Bool}(hb:NS kn o=some b):v=.bool b:=by
 unfold NS at hb
 unfold valOf at hv
 split at hb
 ·rename_i x hop;rw[hop]at hv;exact hv.trans (iW h hb)
 ·rename_i x hop;rw[hop]at hv;exact hv.trans (iW h hb)
 ·rename_i c a b' hop
  rw[hop]at hv
  split at hb
  ·rename_i hc;rw[hv _ (iW h hc)];exact iW h hb
  ·rename_i hc;rw[hv _ (iW h hc)];exact iW h hb
  ·simp at hb
 ·simp at hb
theorem fX.up{kn:List (Nat×Bool)}{fr:Fr}(h:fX kn fr){o:Oper}{v:Value}(hv:valOf o (ev fr) v):fX (NQ kn o) (bS fr o.dst v):=by
 unfold NQ
 split
 ·rename_i b d hb hd
  rw[hd]
  exact(h.del (some d) v).put (by simp[bS,K9 h hv hb])
 ·exact h.del _ _
theorem fX.R3{kn:List (Nat×Bool)}{fr fr':Fr}:∀(l:List Oper),fX kn fr→(∀s,bA l s=false→fr' s=fr s)→fX (jB kn l) fr':=by
 intro l
 have key:∀(l:List Oper) (kn:List (Nat×Bool)) (s:Nat) (b:Bool),iX (jB kn l) s=some b→bA l s=false∧iX kn s=some b:=by
  intro l
  induction l with
  |nil=>intro kn s b h;exact⟨rfl,h⟩
  |cons o r ih=>
   intro kn s b h
   simp only[jB]at h
   obtain⟨h1,h2⟩:=ih _ s b h
   simp only[bA,h1,Bool.or_false]
   cases hd:o.dst with
   |none=>rw[hd]at h2;exact⟨rfl,by cases kn<;>exact h2⟩
   |some d=>
    rw[hd]at h2
    obtain⟨h3,h4⟩:=tI h2
    refine⟨?_,h4⟩
    cases hb:Nat.beq s d
    ·exact hb
    ·exact absurd (Nat.eq_of_beq_eq_true hb) h3
 intro h ho s b hs
 obtain⟨h1,h2⟩:=key l kn s b hs
 rw[ho s h1];exact h s b h2
def dI(P:Program)(g:Gh)(n:Nat)(ops:Array Oper)(gq:Bool):Nat→Bool→Option (Nat×Bool)→List (Nat×Bool)→List Oper→Fr→Hp→(List (Nat×Bool)→Fr→Hp→Prop)→(List PanicEntry→Hp→Prop)→Prop
 |0,_,_,_,_,_,_,_,_=>False
 |_+1,_,_,kn,[],fr,H,K,_=>K kn fr H
 |f+1,q,cur,kn,o::r,fr,H,K,KP=>
  cond (cf o.guard cur)
   (cond (dA n o.dst)
    (cond (q8 o.op) (yg P g o (ev fr) H fun v=>dI P g n ops gq f q cur (NQ kn o) r (bS fr o.dst v) H K KP)
     (cond q (Tz P g o (ev fr) H fun v=>dI P g n ops gq f q cur (jP kn o.dst) r (bS fr o.dst v) H K KP)
      (JL P g o (ev fr) H (fun v H'=>dI P g n ops gq f q cur (jP kn o.dst) r (bS fr o.dst v) H' K KP) KP))) False)
   (match o.guard with
   |none=>False
   |some (j,want)=>
    match dG ops j with
    |none=>False
    |some s=>
     cond (dA n (some s) &&fT n (fy cur (o::r)) && !bA (fy cur (o::r)) s&&j9 ops s want [] (fy cur (o::r)))
     (match iX kn s with
     |some b=>cond (b==want)
       (dI P g n ops gq f q o.guard kn (fy cur (o::r)) fr H (fun nh fr' H'=>dI P g n ops gq f q cur nh (gi cur (o::r)) fr' H' K KP) KP)
       (dI P g n ops gq f q cur (jB kn (fy cur (o::r))) (gi cur (o::r)) (py (fy cur (o::r)) fr) H K KP)
     |none=>
     cond (q||gq)
      (match gi cur (o::r)with
      | []=>False
      |p::r'=>
       cond (oN p&&dA n p.dst)
       (dO (fr s) want
        (fun t=>dI P g n ops gq f true o.guard ((s,want)::kn) (fy cur (o::r)) (bS fr (some s) (.bool want)) H (fun _ fr' H'=>H'=H∧mT p fr'=.bool t) (fun _ _=>False))
        (fun t=>mT p (py (fy cur (o::r)) (bS fr (some s) (.bool !want)))=.bool t)
        (fun t=>∀gs,dI P g n ops gq f q cur (jP (jB kn (fy cur (o::r))) p.dst) r' (bS (u6 (fy cur (o::r)) gs fr) p.dst (.bool t)) H K KP)) False)
      (Split (fr s) want
       (dI P g n ops gq f q o.guard ((s,want)::kn) (fy cur (o::r)) (bS fr (some s) (.bool want)) H (fun nh fr' H'=>dI P g n ops gq f q cur nh (gi cur (o::r)) fr' H' K KP) KP)
       (dI P g n ops gq f q cur ((s, !want)::jB kn (fy cur (o::r))) (gi cur (o::r)) (py (fy cur (o::r)) (bS fr (some s) (.bool !want))) H K KP))) False)
theorem iM{fr:Fr}{s:Nat}{v:Value}(h:fr s=v):bS fr (some s) v=fr:=by
 funext x
 simp only[bS]
 cases hb:Nat.beq x s
 ·rfl
 ·have:=Nat.eq_of_beq_eq_true hb;subst this;simp[h]
theorem eN{fr:Fr}{d:Option Nat}{v:Value}{s:Nat}(h:bA [({(default:Oper)with dst:=d})] s=false):bS fr d v s=fr s:=by
 cases d with
 |none=>rfl
 |some d=>simp only[bA,Bool.or_false]at h;simp only[bS,h,cond_false]
theorem cU{o:Oper}{r:List Oper}{s:Nat}:bA (o::r) s=(bA [({(default:Oper)with dst:=o.dst})] s||bA r s):=by
 simp[bA]
theorem bM{a b:List Oper}{s:Nat}:bA (a++b) s=(bA a s||bA b s):=by
 induction a with
 |nil=>simp[bA]
 |cons o r ih=>simp only[List.cons_append,bA,ih,Bool.or_assoc]
def dD(l:List Oper)(fr fr':Fr):Prop:=∀s,bA l s=false→fr' s=fr s
def jm(ops:Array Oper)(cur:Option (Nat×Bool))(l:List Oper)(fr:Fr):Prop:=
 match cur with
 |none=>True
 |some (j,want)=>∃s,dG ops j=some s∧fr s=.bool want∧bA l s=false
theorem jm.tail{ops:Array Oper}{cur:Option (Nat×Bool)}{o:Oper}{r:List Oper}{fr fr':Fr}(h:jm ops cur (o::r) fr)(he:∀s,bA [({(default:Oper)with dst:=o.dst})] s=false→fr' s=fr s):jm ops cur r fr':=by
 unfold jm at*
 split
 ·trivial
 ·obtain⟨s,h1,h2,h3⟩:=h
  rw[cU,Bool.or_eq_false_iff]at h3
  exact⟨s,h1,(he s h3.1).trans h2,h3.2⟩
theorem ju{n:Nat}{ops:Array Oper}{a:Act}{fr:Fr}(h:ca ds n a fr){j s:Nat}(hs:dG ops j=some s):yielded ops a.tmps j=match fr s with| .bool b=>some b|_=>none:=by
 unfold dG at hs
 split at hs
 ·rename_i oj hj
  have hg:=h.get s
  rw[Array.getD_eq_getD_getElem?]at hg
  simp only[yielded,hj,Option.bind_some,hs]
  cases ht:a.tmps[s]? with
  |none=>rw[ht]at hg;simp only[Option.getD_none]at hg;rw[←hg];rfl
  |some v=>rw[ht]at hg;simp only[Option.getD_some]at hg;rw[←hg];cases v<;>rfl
 ·simp at hs
theorem jm.wanted{n:Nat}{ops:Array Oper}{cur:Option (Nat×Bool)}{l:List Oper}{fr:Fr}(h:jm ops cur l fr){o:Oper}(ho:o.guard=cur){a:Act}(ha:ca ds n a fr):Region.wanted o (yielded ops a.tmps)=true:=by
 unfold jm at h
 unfold Region.wanted
 rw[ho]
 split at h
 ·rfl
 ·obtain⟨s,h1,h2,_⟩:=h
  simp only[ju ha h1,h2,beq_self_eq_true]
theorem mS{p:Oper}{fr:Fr}{t:Bool}(hp:oN p=true)(h:mT p fr=.bool t)(w:World):(execOp (ev fr) p).run P w=.ok (.value (.bool t)) w:=by
 unfold oN at hp
 split at hp<;>try (simp at hp;done)
 rename_i c a b hop
 simp only[mT,hop]at h
 split at h
 ·rename_i t' hc
  simp only[execOp,hop,hc,asBool]
  cases t'<;>simp only[cond_true,cond_false]at h<;>simp[h]
 ·simp[undef]at h
theorem kZ{n:Nat}{ops:Array Oper}{Q:Exit→Act→World→Prop}{s:Nat}{want:Bool}{w:World}{rest:List Oper}:∀(l:List Oper) (seen:List Nat) (fr:Fr) (a:Act),fT n l=true→bA l s=false→j9 ops s want seen l=true→
  fr s=.bool (!want)→(∀t∈seen,fr t=undef)→ca ds n a fr→(∀a',ca ds n a' (py l fr)→wpList P ops Q rest a' w)→wpList P ops Q (l++rest) a w
 | [],_,fr,a,_,_,_,_,_,ha,hk=>hk a ha
 |o::r,seen,fr,a,hd,hi,hs,hf,ri,ha,hk=>by
  simp only[fT,Bool.and_eq_true]at hd
  rw[cU,Bool.or_eq_false_iff]at hi
  simp only[j9,Bool.and_eq_true]at hs
  obtain⟨tN,rj⟩:=hs
  have QK:Region.wanted o (yielded ops a.tmps)=false:=by
   unfold Region.wanted
   split at tN
   ·simp at tN
   ·rename_i j w' hg
    rw[hg]
    split at tN
    ·simp at tN
    ·rename_i t ht
     simp only[ju ha ht]
     simp only[Bool.or_eq_true,Bool.and_eq_true,beq_iff_eq]at tN
     rcases tN with⟨h1,rfl⟩|h1
     ·have:=Nat.eq_of_beq_eq_true h1;subst this
      rw[hf];cases w'<;>rfl
     ·obtain⟨u,hu,hb⟩:=List.any_eq_true.1 h1
      have:=Nat.eq_of_beq_eq_true hb;subst this
      rw[ri _ hu];rfl
  simp only[List.cons_append,wpList,QK,Bool.false_eq_true,if_false]
  refine kZ r _ (bS fr o.dst undef) _ hd.2 hi.2 rj ?_ ?_ (ha.put hd.1 undef) (fun a' h'=>hk a' h')
  ·rw[eN hi.1,hf]
  ·intro t ht
   cases ID:o.dst with
   |none=>rw[ID]at ht;exact ri t ht
   |some d=>
    rw[ID]at ht
    simp only[bS]
    cases hb:Nat.beq t d
    ·simp only[cond_false]
     rcases List.mem_cons.1 ht with rfl|ht
     ·simp at hb
     ·exact ri t ht
    ·rfl
theorem mK{n:Nat}{ops:Array Oper}{C:World→Prop}{Q:Act→Prop}{s:Nat}{want:Bool}{rest:List Oper}:∀(l:List Oper) (seen:List Nat) (fr:Fr) (a:Act),fT n l=true→bA l s=false→j9 ops s want seen l=true→
  fr s=.bool (!want)→(∀t∈seen,fr t=undef)→ca ds n a fr→(∀a',ca ds n a' (py l fr)→wpQuiet P ops C Q rest a')→wpQuiet P ops C Q (l++rest) a
 | [],_,fr,a,_,_,_,_,_,ha,hk=>hk a ha
 |o::r,seen,fr,a,hd,hi,hs,hf,ri,ha,hk=>by
  simp only[fT,Bool.and_eq_true]at hd
  rw[cU,Bool.or_eq_false_iff]at hi
  simp only[j9,Bool.and_eq_true]at hs
  obtain⟨tN,rj⟩:=hs
  have QK:Region.wanted o (yielded ops a.tmps)=false:=by
   unfold Region.wanted
   split at tN
   ·simp at tN
   ·rename_i j w' hg
    rw[hg]
    split at tN
    ·simp at tN
    ·rename_i t ht
     simp only[ju ha ht]
     simp only[Bool.or_eq_true,Bool.and_eq_true,beq_iff_eq]at tN
     rcases tN with⟨h1,rfl⟩|h1
     ·have:=Nat.eq_of_beq_eq_true h1;subst this
      rw[hf];cases w'<;>rfl
     ·obtain⟨u,hu,hb⟩:=List.any_eq_true.1 h1
      have:=Nat.eq_of_beq_eq_true hb;subst this
      rw[ri _ hu];rfl
  simp only[List.cons_append,wpQuiet,QK,Bool.false_eq_true,if_false]
  refine mK r _ (bS fr o.dst undef) _ hd.2 hi.2 rj ?_ ?_ (ha.put hd.1 undef) (fun a' h'=>hk a' h')
  ·rw[eN hi.1,hf]
  ·intro t ht
   cases ID:o.dst with
   |none=>rw[ID]at ht;exact ri t ht
   |some d=>
    rw[ID]at ht
    simp only[bS]
    cases hb:Nat.beq t d
    ·simp only[cond_false]
     rcases List.mem_cons.1 ht with rfl|ht
     ·simp at hb
     ·exact ri t ht
    ·rfl
theorem cI:∀(l:List Oper) (fr:Fr),dD l fr (py l fr)
 | [],fr=>fun s _=>rfl
 |o::r,fr=>fun s hs=>by
  rw[cU,Bool.or_eq_false_iff]at hs
  rw[py,cI r _ s hs.2,eN hs.1]
end
end Go.Sx
namespace Go.Sx
open Go
section
variable {P:Program} {g:Gh} {ds:List Deferred}
theorem lK(fr:Fr):∀f,ev fr (.func f)=.func (.func f) #[] #[]:=fun _=>rfl
theorem Cy{o:Oper}{fr:Fr}{H:Hp}{k:Value→Prop}(h:Tz P g o (ev fr) H k):
  ∃v f args,(∀w,(execOp (ev fr) o).run P w=.ok (.enter f args) w)∧bZ P g f args H (fun e H'=>e=.returned v∧H'=H)∧k v:=by
 unfold Tz at h
 split at h<;>try exact h.elim
 rename_i c hop
 split at h<;>try exact h.elim
 ·rename_i f hc
  cases jt:cC P f<;>simp only[jt,cond_true,cond_false]at h
  obtain⟨v,hs,hk⟩:=h
  rw[mapList]at hs
  refine⟨v,f,_,fun w=>?_,hs,hk⟩
  simp only[execOp,hop,resolve,hc,Deferred.ofValue,lK,invoke]
  show(callFunc f ((#[]++c.args.map (ev fr))++ #[])).run P w=_
  rw[Array.empty_append,Array.append_empty]
  exact eo jt _ w
 ·rename_i x _ hc
  obtain⟨f,first,captured,hf,jt,v,hs,hk⟩:=h
  rw[mapList]at hs
  refine⟨v,f,_,fun w=>?_,hs,hk⟩
  simp only[execOp,hop,resolve,hc,Deferred.ofValue,hf,invoke]
  show(callFunc f (first++c.args.map (ev fr)++captured)).run P w=_
  exact eo jt _ w
theorem kX.upon{o:Oper}{a:Act}{K:Value→Hp→Prop}{KP:List PanicEntry→Hp→Prop}{next:Act→World→Prop}{Q:Exit→Act→World→Prop}{r:Result Next}
 (h:kX P g K KP r)(hn:∀v H' w',Own g H' w'→K v H'→next (a.put o.dst v) w')(hp:∀ch H' w',Own g H' w'→KP ch H'→Q (.panic ch) a w'):o.upon P a next Q r:=by
 cases r with
 |ok n w'=>
  cases n<;>simp only[kX]at h<;>simp only[Oper.upon]
  case value v=>obtain⟨H',ho,hk⟩:=h;exact hn _ _ _ ho hk
  case skip=>obtain⟨H',ho,hk⟩:=h;exact hn _ _ _ ho hk
  case enter f args=>
   refine h.mono fun e w'' ⟨H',ho,hk⟩=>?_
   cases e with
   |returned v=>exact hn _ _ _ ho hk
   |panicked ch=>exact hp _ _ _ ho hk
   |outgrown=>exact hk.elim
 |halt x w'=>
  cases x<;>simp only[kX]at h
  case panic v=>obtain⟨H',ho,hk⟩:=h;exact hp _ _ _ ho hk
theorem dD.refl(l:List Oper)(fr:Fr):dD l fr fr:=fun _ _=>rfl
theorem dD.cons{o:Oper}{r:List Oper}{fr fr':Fr}{v:Value}(h:dD r (bS fr o.dst v) fr'):dD (o::r) fr fr':=fun s hs=>by
 rw[cU,Bool.or_eq_false_iff]at hs
 rw[h s hs.2,eN hs.1]
theorem cq{n:Nat}{ops:Array Oper}{gq:Bool}:∀(f:Nat) (q:Bool) (cur:Option (Nat×Bool)) (kn:List (Nat×Bool)) (l:List Oper) (fr:Fr) (H:Hp) (K:List (Nat×Bool)→Fr→Hp→Prop) (KP:List PanicEntry→Hp→Prop),
  dI P g n ops gq f q cur kn l fr H K KP→jm ops cur l fr→fX kn fr→∀(a:Act) (w:World),ca ds n a fr→Own g H w→∀(rest:List Oper) (Q:Exit→Act→World→Prop),
  (∀a' w' nh fr' H',ca ds n a' fr'→Own g H' w'→dD l fr fr'→fX nh fr'→K nh fr' H'→wpList P ops Q rest a' w')→
  (∀ch a' w' fr' H',ca ds n a' fr'→Own g H' w'→KP ch H'→Q (.panic ch) a' w')→wpList P ops Q (l++rest) a w
 |0,_,_,_,_,_,_,_,_,h=>h.elim
 |f+1,q,cur,kn,[],fr,H,K,KP,h=>fun _ hkn a w ha hw rest Q hk _=>hk a w kn fr H ha hw (dD.refl _ _) hkn h
 |f+1,q,cur,kn,o::r,fr,H,K,KP,h=>by
  intro pY hkn a w ha hw rest Q hk hp
  unfold dI at h
  cases Qx:cf o.guard cur<;>simp only[Qx,cond_true,cond_false]at h
  case true=>
   have hg:=gv Qx
   have mq:=pY.wanted hg ha
   cases hd:dA n o.dst<;>simp only[hd,cond_true,cond_false]at h
   simp only[List.cons_append,wpList,mq,if_true]
   refine .inl ?_
   unfold Oper.wp
   rw[ha.eval]
   cases sO:q8 o.op<;>simp only[sO,cond_true,cond_false]at h
   case true=>
    obtain⟨v,hk',hr,hv⟩:=k9 h
    rw[hr w hw]
    exact cq f q cur _ r _ H K KP hk' (pY.tail fun s hs=>eN hs) (hkn.up hv) _ w (ha.put hd v) hw rest Q (fun a' w' nh fr' H' h1 h2 h3 h5 h4=>hk a' w' nh fr' H' h1 h2 h3.cons h5 h4) hp
   case false=>
    cases q<;>simp only[cond_true,cond_false]at h
    case true=>
     obtain⟨v,f',args,hr,hs,hk'⟩:=Cy h
     rw[hr w]
     refine(hs w hw).mono fun e w'' ⟨H',ho,he,hH⟩=>?_
     subst he;subst hH
     exact cq f true cur _ r _ H' K KP hk' (pY.tail fun s hs=>eN hs) (hkn.del _ _) _ w'' (ha.put hd v) ho rest Q (fun a' w' nh fr' H' h1 h2 h3 h5 h4=>hk a' w' nh fr' H' h1 h2 h3.cons h5 h4) hp
    case false=>
     refine(qM (lK fr) h w hw).upon (fun v H' w' ho hk'=>?_) (fun ch H' w' ho hk'=>hp ch a w' fr H' ha ho hk')
     exact cq f false cur _ r _ H' K KP hk' (pY.tail fun s hs=>eN hs) (hkn.del _ _) _ w' (ha.put hd v) ho rest Q (fun a' w' nh fr' H' h1 h2 h3 h5 h4=>hk a' w' nh fr' H' h1 h2 h3.cons h5 h4) hp
  case false=>
   split at h<;>try exact h.elim
   rename_i j want Pj
   split at h<;>try exact h.elim
   rename_i s iq
   generalize hG:fy cur (o::r)=G at h
   generalize hR:gi cur (o::r)=R at h
   have Da:G++R=o::r:=by rw[←hG,←hR];exact pw _ _
   cases ej:(dA n (some s) &&fT n G&& !bA G s&&j9 ops s want [] G)<;>simp only[ej,cond_true,cond_false]at h
   simp only[Bool.and_eq_true,Bool.not_eq_true']at ej
   obtain⟨⟨⟨hds,Pu⟩,Gg⟩,JP⟩:=ej
   rw[←Da,List.append_assoc]
   have WH:∀fr',dD G fr fr'→∀s,bA (o::r) s=false→fr' s=fr s:=fun fr' ho s hs=>by
    rw[←Da,bM,Bool.or_eq_false_iff]at hs
    exact ho s hs.1
   have kG:∀fr',dD G fr fr'→jm ops cur R fr':=fun fr' ho=>by
    unfold jm at pY⊢
    split
    ·trivial
    ·obtain⟨t,h1,h2,h3⟩:=pY
     have vG:=h3
     rw[←Da,bM,Bool.or_eq_false_iff]at vG
     exact⟨t,h1,(ho t vG.1).trans h2,vG.2⟩
   have Ez:∀fr',dD G fr fr'→fX (jB kn G) fr':=fun fr' ho=>hkn.R3 G ho
   split at h
   ·rename_i b hb
    have nk:=hkn s b hb
    cases Ly:(b==want)<;>simp only[Ly,cond_true,cond_false]at h
    ·have me:b= !want:=by cases b<;>cases want<;>simp_all
     subst me
     refine kZ G [] fr a Pu Gg JP nk (fun t ht=>by simp at ht) ha fun a' dy=>?_
     refine cq f q cur _ R _ H K KP h (kG _ (cI G fr)) (Ez _ (cI G fr)) a' w dy hw rest Q (fun a2 w2 y2 pM H2 k1 k2 k3 k5 k4=>hk a2 w2 y2 pM H2 k1 k2 ?_ k5 k4) hp
     intro x hx
     have hx':=hx
     rw[←Da,bM,Bool.or_eq_false_iff]at hx'
     rw[k3 x hx'.2,cI G fr x hx'.1]
    ·have me:b=want:=by cases b<;>cases want<;>simp_all
     subst me
     refine cq f q o.guard kn G fr H _ KP h ?_ hkn a w ha hw (R++rest) Q ?_ hp
     ·rw[Pj];exact⟨s,iq,nk,Gg⟩
     ·intro a' w' nh fr' H' g1 g2 g3 g5 g4
      refine cq f q cur nh R fr' H' K KP g4 (kG fr' g3) g5 a' w' g1 g2 rest Q (fun a2 w2 y2 pM H2 k1 k2 k3 k5 k4=>hk a2 w2 y2 pM H2 k1 k2 ?_ k5 k4) hp
      intro x hx
      have hx':=hx
      rw[←Da,bM,Bool.or_eq_false_iff]at hx'
      rw[k3 x hx'.2,g3 x hx'.1]
   rename_i Oi
   cases Ua:(q||gq)<;>simp only[Ua,cond_true,cond_false]at h
   case true=>
    split at h<;>try exact h.elim
    rename_i p r' 
    have Ue:cf p.guard cur=true:=by
     have:∀l:List Oper,gi cur l=p::r'→cf p.guard cur=true:=by
      intro l
      induction l with
      |nil=>intro e;simp[gi]at e
      |cons x y ih=>
       intro e
       simp only[gi]at e
       cases hx:cf x.guard cur<;>simp only[hx,cond_true,cond_false]at e
       ·exact ih e
       ·simp only[List.cons.injEq]at e;rw[←e.1];exact hx
     exact this _ hR
    cases hpk:(oN p&&dA n p.dst)<;>simp only[hpk,cond_true,cond_false]at h
    simp only[Bool.and_eq_true]at hpk
    obtain⟨b,t,nk,h1,h2,h3⟩:=h
    have dH:∀(a':Act) (w':World) (fr':Fr),ca ds n a' fr'→Own g H w'→dD G fr fr'→mT p fr'=.bool t→wpList P ops Q (p::r'++rest) a' w':=by
     intro a' w' fr' dy cR ho QF
     have mq:=(kG fr' ho).wanted (gv Ue) dy
     simp only[List.cons_append,wpList,mq,if_true]
     refine .inl ?_
     unfold Oper.wp
     rw[dy.eval,mS hpk.1 QF w']
     have Iz:u6 G fr' fr=fr':=by
      funext x
      simp only[u6]
      cases hx:bA G x
      ·exact(ho x hx).symm
      ·rfl
     have vG:=h3 fr'
     rw[Iz]at vG
     refine cq f q cur _ r' _ H K KP vG ((kG fr' ho).tail fun s hs=>eN hs) ((Ez fr' ho).del _ _) _ w' (dy.put hpk.2 _) cR rest Q (fun a2 w2 y2 pM H2 g1 g2 g3 g5 g4=>hk a2 w2 y2 pM H2 g1 g2 ?_ g5 g4) hp
     intro x hx
     have hx':=hx
     rw[←Da,bM,Bool.or_eq_false_iff,cU,Bool.or_eq_false_iff]at hx'
     rw[g3 x hx'.2.2,eN hx'.2.1,ho x hx'.1]
    by_cases Ly:b=want
    ·subst Ly
     have u4:=h1 rfl
     rw[iM nk]at u4
     refine cq f true o.guard _ G fr H _ _ u4 ?_ (hkn.put nk) a w ha hw (p::r'++rest) Q ?_ ?_
     ·rw[Pj];exact⟨s,iq,nk,Gg⟩
     ·intro a' w' nh fr' H' g1 g2 g3 _ ⟨g4,g5⟩
      subst g4
      exact dH a' w' fr' g1 g2 g3 g5
     ·intro _ _ _ _ _ _ _ h0;exact h0.elim
    ·have me:b= !want:=by cases b<;>cases want<;>simp_all
     have nq:=h2 me
     subst me
     rw[iM nk]at nq
     refine kZ G [] fr a Pu Gg JP nk (fun t ht=>by simp at ht) ha fun a' dy=>?_
     exact dH a' w _ dy hw (cI G fr) nq
   case false=>
    obtain⟨b,nk,h1,h2⟩:=h
    by_cases Ly:b=want
    ·subst Ly
     have u4:=h1 rfl
     rw[iM nk]at u4
     refine cq f q o.guard _ G fr H _ KP u4 ?_ (hkn.put nk) a w ha hw (R++rest) Q ?_ hp
     ·rw[Pj];exact⟨s,iq,nk,Gg⟩
     ·intro a' w' nh fr' H' g1 g2 g3 g5 g4
      refine cq f q cur nh R fr' H' K KP g4 (kG fr' g3) g5 a' w' g1 g2 rest Q (fun a2 w2 y2 pM H2 k1 k2 k3 k5 k4=>hk a2 w2 y2 pM H2 k1 k2 ?_ k5 k4) hp
      intro x hx
      have hx':=hx
      rw[←Da,bM,Bool.or_eq_false_iff]at hx'
      rw[k3 x hx'.2,g3 x hx'.1]
    ·have me:b= !want:=by cases b<;>cases want<;>simp_all
     have nq:=h2 me
     subst me
     rw[iM nk]at nq
     refine kZ G [] fr a Pu Gg JP nk (fun t ht=>by simp at ht) ha fun a' dy=>?_
     refine cq f q cur _ R _ H K KP nq (kG _ (cI G fr)) ((Ez _ (cI G fr)).put (by rw[cI G fr s Gg,nk])) a' w dy hw rest Q (fun a2 w2 y2 pM H2 k1 k2 k3 k5 k4=>hk a2 w2 y2 pM H2 k1 k2 ?_ k5 k4) hp
     intro x hx
     have hx':=hx
     rw[←Da,bM,Bool.or_eq_false_iff]at hx'
     rw[k3 x hx'.2,cI G fr x hx'.1]
theorem cX{n:Nat}{ops:Array Oper}{gq:Bool}:∀(f:Nat) (cur:Option (Nat×Bool)) (kn:List (Nat×Bool)) (l:List Oper) (fr:Fr) (H:Hp) (K:List (Nat×Bool)→Fr→Hp→Prop) (KP:List PanicEntry→Hp→Prop),
  dI P g n ops gq f true cur kn l fr H K KP→jm ops cur l fr→fX kn fr→∀(a:Act),ca ds n a fr→∀(rest:List Oper) (Q:Act→Prop),
  (∀a' nh fr',ca ds n a' fr'→dD l fr fr'→fX nh fr'→K nh fr' H→wpQuiet P ops (Own g H) Q rest a')→wpQuiet P ops (Own g H) Q (l++rest) a
 |0,_,_,_,_,_,_,_,h=>h.elim
 |f+1,cur,kn,[],fr,H,K,KP,h=>fun _ hkn a ha rest Q hk=>hk a kn fr ha (dD.refl _ _) hkn h
 |f+1,cur,kn,o::r,fr,H,K,KP,h=>by
  intro pY hkn a ha rest Q hk
  unfold dI at h
  cases Qx:cf o.guard cur<;>simp only[Qx,cond_true,cond_false]at h
  case true=>
   have hg:=gv Qx
   have mq:=pY.wanted hg ha
   cases hd:dA n o.dst<;>simp only[hd,cond_true,cond_false]at h
   simp only[List.cons_append,wpQuiet,mq,if_true]
   cases sO:q8 o.op<;>simp only[sO,cond_true,cond_false]at h
   case true=>
    obtain⟨v,hk',hr,hv⟩:=k9 h
    refine⟨v,fun w hw=>?_,?_⟩
    ·unfold Oper.quietAt
     rw[ha.eval,hr w hw]
     exact⟨rfl,rfl⟩
    ·exact cX f cur _ r _ H K KP hk' (pY.tail fun s hs=>eN hs) (hkn.up hv) _ (ha.put hd v) rest Q (fun a' nh fr' h1 h3 h5 h4=>hk a' nh fr' h1 h3.cons h5 h4)
   case false=>
    obtain⟨v,f',args,hr,hs,hk'⟩:=Cy h
    refine⟨v,fun w hw=>?_,?_⟩
    ·unfold Oper.quietAt
     rw[ha.eval,hr w]
     refine⟨rfl,(hs w hw).mono fun e w'' ⟨H',ho,he,hH⟩=>?_⟩
     subst hH
     exact⟨he,ho⟩
    ·exact cX f cur _ r _ H K KP hk' (pY.tail fun s hs=>eN hs) (hkn.del _ _) _ (ha.put hd v) rest Q (fun a' nh fr' h1 h3 h5 h4=>hk a' nh fr' h1 h3.cons h5 h4)
  case false=>
   split at h<;>try exact h.elim
   rename_i j want Pj
   split at h<;>try exact h.elim
   rename_i s iq
   generalize hG:fy cur (o::r)=G at h
   generalize hR:gi cur (o::r)=R at h
   have Da:G++R=o::r:=by rw[←hG,←hR];exact pw _ _
   cases ej:(dA n (some s) &&fT n G&& !bA G s&&j9 ops s want [] G)<;>simp only[ej,cond_true,cond_false]at h
   simp only[Bool.and_eq_true,Bool.not_eq_true']at ej
   obtain⟨⟨⟨hds,Pu⟩,Gg⟩,JP⟩:=ej
   rw[←Da,List.append_assoc]
   have kG:∀fr',dD G fr fr'→jm ops cur R fr':=fun fr' ho=>by
    unfold jm at pY⊢
    split
    ·trivial
    ·obtain⟨t,h1,h2,h3⟩:=pY
     have vG:=h3
     rw[←Da,bM,Bool.or_eq_false_iff]at vG
     exact⟨t,h1,(ho t vG.1).trans h2,vG.2⟩
   have Ez:∀fr',dD G fr fr'→fX (jB kn G) fr':=fun fr' ho=>hkn.R3 G ho
   split at h
   ·rename_i b hb
    have nk:=hkn s b hb
    cases Ly:(b==want)<;>simp only[Ly,cond_true,cond_false]at h
    ·have me:b= !want:=by cases b<;>cases want<;>simp_all
     subst me
     refine mK G [] fr a Pu Gg JP nk (fun t ht=>by simp at ht) ha fun a' dy=>?_
     refine cX f cur _ R _ H K KP h (kG _ (cI G fr)) (Ez _ (cI G fr)) a' dy rest Q (fun a2 y2 pM k1 k3 k5 k4=>hk a2 y2 pM k1 ?_ k5 k4)
     intro x hx
     have hx':=hx
     rw[←Da,bM,Bool.or_eq_false_iff]at hx'
     rw[k3 x hx'.2,cI G fr x hx'.1]
    ·have me:b=want:=by cases b<;>cases want<;>simp_all
     subst me
     refine cX f o.guard kn G fr H _ KP h ?_ hkn a ha (R++rest) Q ?_
     ·rw[Pj];exact⟨s,iq,nk,Gg⟩
     ·intro a' nh fr' g1 g3 g5 g4
      refine cX f cur nh R fr' H K KP g4 (kG fr' g3) g5 a' g1 rest Q (fun a2 y2 pM k1 k3 k5 k4=>hk a2 y2 pM k1 ?_ k5 k4)
      intro x hx
      have hx':=hx
      rw[←Da,bM,Bool.or_eq_false_iff]at hx'
      rw[k3 x hx'.2,g3 x hx'.1]
   rename_i Oi
   simp only[Bool.true_or,cond_true]at h
   split at h<;>try exact h.elim
   rename_i p r' 
   have Ue:cf p.guard cur=true:=by
    have:∀l:List Oper,gi cur l=p::r'→cf p.guard cur=true:=by
     intro l
     induction l with
     |nil=>intro e;simp[gi]at e
     |cons x y ih=>
      intro e
      simp only[gi]at e
      cases hx:cf x.guard cur<;>simp only[hx,cond_true,cond_false]at e
      ·exact ih e
      ·simp only[List.cons.injEq]at e;rw[←e.1];exact hx
    exact this _ hR
   cases hpk:(oN p&&dA n p.dst)<;>simp only[hpk,cond_true,cond_false]at h
   simp only[Bool.and_eq_true]at hpk
   obtain⟨b,t,nk,h1,h2,h3⟩:=h
   have dH:∀(a':Act) (fr':Fr),ca ds n a' fr'→dD G fr fr'→mT p fr'=.bool t→wpQuiet P ops (Own g H) Q (p::r'++rest) a':=by
    intro a' fr' dy ho QF
    have mq:=(kG fr' ho).wanted (gv Ue) dy
    simp only[List.cons_append,wpQuiet,mq,if_true]
    refine⟨.bool t,fun w hw=>?_,?_⟩
    ·unfold Oper.quietAt
     rw[dy.eval,mS hpk.1 QF w]
     exact⟨rfl,rfl⟩
    have Iz:u6 G fr' fr=fr':=by
     funext x
     simp only[u6]
     cases hx:bA G x
     ·exact(ho x hx).symm
     ·rfl
    have vG:=h3 fr'
    rw[Iz]at vG
    refine cX f cur _ r' _ H K KP vG ((kG fr' ho).tail fun s hs=>eN hs) ((Ez fr' ho).del _ _) _ (dy.put hpk.2 _) rest Q (fun a2 y2 pM g1 g3 g5 g4=>hk a2 y2 pM g1 ?_ g5 g4)
    intro x hx
    have hx':=hx
    rw[←Da,bM,Bool.or_eq_false_iff,cU,Bool.or_eq_false_iff]at hx'
    rw[g3 x hx'.2.2,eN hx'.2.1,ho x hx'.1]
   by_cases Ly:b=want
   ·subst Ly
    have u4:=h1 rfl
    rw[iM nk]at u4
    refine cX f o.guard _ G fr H _ _ u4 ?_ (hkn.put nk) a ha (p::r'++rest) Q ?_
    ·rw[Pj];exact⟨s,iq,nk,Gg⟩
    ·intro a' nh fr' g1 g3 _ ⟨_,g5⟩
     exact dH a' fr' g1 g3 g5
   ·have me:b= !want:=by cases b<;>cases want<;>simp_all
    have nq:=h2 me
    subst me
    rw[iM nk]at nq
    refine mK G [] fr a Pu Gg JP nk (fun t ht=>by simp at ht) ha fun a' dy=>?_
    exact dH a' _ dy (cI G fr) nq
end
end Go.Sx
namespace Go.Sx
open Go
section
variable {P:Program} {ops:Array Oper} {Q:Exit→Act→World→Prop} {md:Region.Mode} {S:Nat→World→World→Prop} {S0:World→Prop}
def cO(P:Program)(md:Region.Mode)(ops:Array Oper)(Q:Exit→Act→World→Prop)(S:Nat→World→World→Prop):Nat→Array Bool→Act→World→Prop
 |0,listed,a,w=>Region.ready md ops listed=[]∧Q .normal a w
 |n+1,listed,a,w=>(Region.ready md ops listed=[]→Q .normal a w)∧
  ∀i∈Region.ready md ops listed,wpOp P ops Q i (fun a' w'=>S i w w'∧cO P md ops Q S n (listed.setIfInBounds i true) a' w') a w
theorem cO.any:∀{n:Nat} {listed:Array Bool} {a:Act} {w:World},cO P md ops Q S n listed a w→wpAny P md ops Q n listed a w
 |0,_,_,_,h=>h
 |_+1,_,_,_,h=>⟨h.1,fun i hi=>wpOp_mono (fun _ _ h'=>h'.2.any) (h.2 i hi)⟩
def Hl(md:Region.Mode)(ops:Array Oper)(i j:Nat):Prop:=∀oj,ops[j]? =some oj→∀e∈oj.after,Region.binds md e=true→e.on≠i
def dZ(md:Region.Mode)(ops:Array Oper)(listed:Array Bool):Prop:=∀j oj,ops[j]? =some oj→listed.getD j true=true→∀e∈oj.after,Region.binds md e=true→listed.getD e.on true=true
inductive kR(md:Region.Mode)(ops:Array Oper)(i:Nat):Nat→Prop
 |one {j:Nat} {oj:Oper} {e:Edge}:ops[j]? =some oj→e∈oj.after→Region.binds md e=true→e.on=i→kR md ops i j
 |more {j:Nat} {oj:Oper} {e:Edge}:ops[j]? =some oj→e∈oj.after→Region.binds md e=true→kR md ops i e.on→kR md ops i j
theorem u5{a:Array Bool}{i:Nat}(h:a.getD i false=true):a.getD i true=true:=by
 rw[Array.getD_eq_getD_getElem?]at*
 cases hg:a[i]? with
 |none=>rfl
 |some b=>rw[hg]at h;simpa using h
theorem pL{a:Array Bool}{i k:Nat}(h:a.getD k true=true):(a.setIfInBounds i true).getD k true=true:=by
 by_cases e:i=k
 ·subst e
  rw[Array.getD_eq_getD_getElem?,Array.getElem?_setIfInBounds_self]
  split<;>rfl
 ·rw[getD_set_ne true e];exact h
theorem dZ.waits{listed:Array Bool}(hc:dZ md ops listed){i j:Nat}(h:kR md ops i j):listed.getD j true=true→listed.getD i true=true:=by
 induction h with
 |one h1 h2 h3 h4=>intro h;rw[←h4];exact hc _ _ h1 h _ h2 h3
 |more h1 h2 h3 _ ih=>intro h;exact ih (hc _ _ h1 h _ h2 h3)
theorem dZ.ready{listed:Array Bool}(hc:dZ md ops listed){i j:Nat}(hj:j∈Region.ready md ops listed)(h:kR md ops i j):listed.getD i true=true:=by
 obtain⟨_,oj,gh,aB⟩:=mem_ready.1 hj
 cases h with
 |one h1 h2 h3 h4=>rw[gh]at h1;cases h1;rw[←h4];exact u5 (aB _ h2 h3)
 |more h1 h2 h3 h4=>rw[gh]at h1;cases h1;exact hc.waits h4 (u5 (aB _ h2 h3))
theorem dZ.step{listed:Array Bool}(hc:dZ md ops listed){j:Nat}(hj:j∈Region.ready md ops listed):dZ md ops (listed.setIfInBounds j true):=by
 intro k ok hk hl e he hb
 by_cases Ls:j=k
 ·subst Ls
  obtain⟨_,oj,gh,aB⟩:=mem_ready.1 hj
  rw[hk]at gh;cases gh
  exact pL (u5 (aB e he hb))
 ·rw[getD_set_ne true Ls]at hl
  exact pL (hc k ok hk hl e he hb)
theorem dZ.none(n:Nat)(h:ops.size=n):dZ md ops (Array.replicate n false):=by
 intro j oj hj hl
 exfalso
 have hlt:=(Array.getElem?_eq_some_iff.1 hj).1
 rw[Array.getD_eq_getD_getElem?,Array.getElem?_replicate,if_pos (by omega)]at hl
 cases hl
theorem cO.first{i:Nat}{oi:Oper}{v:Value}(hi:ops[i]? =some oi)(hsel:Region.noSelect ops=true)(hQ:∀c a w,Q (.panic c) (a.put oi.dst v) w→Q (.panic c) a w)
 (LH:∀w,S0 w→S i w w)(hS:∀j oj w w',ops[j]? =some oj→j≠i→¬kR md ops i j→S0 w→S j w w'→S0 w'):∀(n:Nat) (listed:Array Bool) (a:Act) (w:World),dZ md ops listed→
   (∀j oj,ops[j]? =some oj→j≠i→listed.getD j true=false→Hl md ops i j→oi.apart ops oj=true)→i∈Region.ready md ops listed→YieldsIf P ops S0 oi v a→S0 w→
   cO P md ops Q S n (listed.setIfInBounds i true) (a.put oi.dst v) w→cO P md ops Q S (n+1) listed a w:=by
 have VR:=Region.noSelect_spec hsel
 intro n
 induction n with
 |zero=>
  intro listed a w hc hfree hr hy h0 h
  refine⟨fun e=>absurd hr (by rw[e];simp),fun j hj=>?_⟩
  by_cases e:j=i
  ·rw[e];exact hy.wpOp hi h0 ⟨LH _ h0,h⟩
  ·exact absurd (ready_mono hj e) (by rw[h.1];simp)
 |succ n ih=>
  intro listed a w hc hfree hr hy h0 h
  refine⟨fun e=>absurd hr (by rw[e];simp),fun j hj=>?_⟩
  by_cases e:j=i
  ·rw[e];exact hy.wpOp hi h0 ⟨LH _ h0,h⟩
  ·obtain⟨hun,oj,gh,aB⟩:=mem_ready.1 hj
   have hno:Hl md ops i j:=fun o ho x hx hb he=>by
    rw[gh]at ho;cases ho
    have h1:=aB x hx hb
    have h2:=(mem_ready.1 hr).1
    rw[he]at h1
    rw[Array.getD_eq_getD_getElem?]at h1 h2
    cases hg:listed[i]? with
    |none=>rw[hg]at h1;simp at h1
    |some y=>rw[hg]at h1 h2;simp at h1 h2;rw[h2]at h1;cases h1
   have QK:¬kR md ops i j:=fun hw=>by
    have h1:=hc.ready hj hw
    rw[(mem_ready.1 hr).1]at h1;cases h1
   refine wpOp_mono ?_ (wpOp_putIf gh (hfree j oj gh e hun hno) (fun cs b=>VR i oi cs b hi) (fun cs b=>VR j oj cs b gh) hQ hy (h.2 j (ready_mono hj e)))
   rintro a' w' ⟨hy',hs',gg⟩
   refine⟨hs',ih _ _ _ (hc.step hj) (fun k ok hk Ol Lg Ev=>hfree k ok hk Ol ?_ Ev) (ready_mono hr (Ne.symm e)) hy' (hS j oj w w' gh e QK h0 hs') (by rw[Array.setIfInBounds_comm _ _ e];exact gg)⟩
   by_cases Ls:j=k
   ·rw[←Ls];exact hun
   ·rw[←Lg,getD_set_ne true Ls]
theorem cO.take{i:Nat}{oi:Oper}{v:Value}{n:Nat}{listed:Array Bool}{a:Act}{w:World}(hc:dZ md ops listed)(hi:ops[i]? =some oi)(hsel:Region.noSelect ops=true)(hf:Region.free md ops listed i=true)
 (hr:(Region.ready md ops listed).contains i=true)(hQ:∀c a w,Q (.panic c) (a.put oi.dst v) w→Q (.panic c) a w)(LH:∀w,S0 w→S i w w)(hS:∀j oj w w',ops[j]? =some oj→j≠i→¬kR md ops i j→S0 w→S j w w'→S0 w')
 (hy:YieldsIf P ops S0 oi v a)(h0:S0 w)(h:cO P md ops Q S n (listed.setIfInBounds i true) (a.put oi.dst v) w):cO P md ops Q S (n+1) listed a w:=
 cO.first hi hsel hQ LH hS n listed a w hc (fun j oj h1 h2 h3 h4=>Region.free_spec hi hf j oj h1 h2 h3 (h4 oj h1)) (by simpa using hr) hy h0 h
theorem cO.all{rs:List Nat}{n:Nat}{listed:Array Bool}{a:Act}{w:World}(hr:Region.ready md ops listed=rs)(hne:rs≠[])
 (h:∀i∈rs,wpOp P ops Q i (fun a' w'=>S i w w'∧cO P md ops Q S n (listed.setIfInBounds i true) a' w') a w):cO P md ops Q S (n+1) listed a w:=
 ⟨fun h0=>absurd (hr▸h0) hne,hr▸h⟩
theorem cO.done{listed:Array Bool}{a:Act}{w:World}(hr:Region.ready md ops listed=[])(h:Q .normal a w):∀n,cO P md ops Q S n listed a w
 |0=>⟨hr,h⟩
 |_+1=>⟨fun _=>h,by rw[hr];simp⟩
def TD(j:Oper)(i:Nat):Bool:=j.after.toList.any fun e=>Nat.beq e.on i&&Region.binds .any e
def Qj(P:Program):Op→Bool
 | .move _| .assign _| .pick .. | .nilCheck _| .fieldAddr .. | .field .. | .indexAddr .. | .unOp .. =>true
 | .slice t _ _ _ none=>match P.underlying t with|some (.slice _)=>true|_=>false
 | .binOp _ t _ _ _=>match P.underlying t with
  |some d=>match vn d with| .other=>false|_=>true
  |none=>true
 |_=>false
theorem wc{g:Gh}{o:Oper}(h:Qj P o.op=true)(ρ:Operand→Value)(H H':Hp)(k:Value→Prop):yg P g o ρ H k=yg P g o ρ H' k:=by
 obtain⟨d,op,t,p,a,gd⟩:=o
 cases op<;>first|rfl|(simp only[Qj]at h;first|cases h|skip)
 case binOp op t x y z=>
  simp only[yg]
  cases hu:P.underlying t with
  |none=>rfl
  |some d=>
   simp only[hu]at h
   cases hb:vn d<;>simp only[hb]at h⊢
   cases h
 case slice t x lo hi m=>
  cases m with
  |none=>
   simp only[yg]
   cases hu:P.underlying t with
   |none=>simp[hu]at h
   |some d=>cases d<;>first|rfl|(exfalso;simp[hu]at h)
  |some m=>cases h
def sL(P:Program)(o:Op):Bool:=q8 o&& !Qj P o
def CB(P:Program)(ops:Array Oper)(j:Nat):Bool:=match ops[j]? with
 |some oj=>(List.range ops.size).any fun i=>match ops[i]? with|some oi=>sL P oi.op&& !TD oj i&& !Nat.beq i j|none=>false
 |none=>true
def mG(ops:Array Oper)(i:Nat):Nat→Nat→Bool
 |0,_=>false
 |n+1,j=>match ops[j]? with
  |some oj=>oj.after.toList.any fun e=>Region.binds .any e&& (Nat.beq e.on i||mG ops i n e.on)
  |none=>false
theorem pg{i:Nat}:∀{n j:Nat},mG ops i n j=true→kR .any ops i j
 |0,j,h=>by simp[mG]at h
 |n+1,j,h=>by
  unfold mG at h
  split at h
  ·rename_i oj gh
   obtain⟨e,he,h2⟩:=List.any_eq_true.1 h
   simp only[Bool.and_eq_true,Bool.or_eq_true]at h2
   rcases h2.2 with h3|h3
   ·exact .one gh (Array.mem_toList_iff.1 he) h2.1 (Nat.eq_of_beq_eq_true h3)
   ·exact .more gh (Array.mem_toList_iff.1 he) h2.1 (pg h3)
  ·cases h
def pC(P:Program)(ops:Array Oper)(j:Nat):Bool:=(List.range ops.size).any fun i=>match ops[i]? with|some oi=>sL P oi.op&& !mG ops i 6 j&& !Nat.beq i j|none=>false
def mE(P:Program)(g:Gh)(R:Hp)(ops:Array Oper)(j:Nat)(w w':World):Prop:=∀oj,ops[j]? =some oj→(q8 oj.op=true→w'=w)∧(q8 oj.op=false→Own g [] w'∧(pC P ops j=true→Own g R w→Own g R w'))
theorem jx{i j:Nat}{oi:Oper}(hi:ops[i]? =some oi)(hp:sL P oi.op=true)(hne:j≠i)(h:¬kR .any ops i j):pC P ops j=true:=by
 unfold pC
 rw[List.any_eq_true]
 refine⟨i,List.mem_range.2 (Array.getElem?_eq_some_iff.1 hi).1,?_⟩
 simp only[hi,hp,Bool.true_and,Bool.and_eq_true,Bool.not_eq_true']
 refine⟨?_,?_⟩
 ·cases hb:mG ops i 6 j
  ·rfl
  ·exact absurd (pg hb) h
 ·cases hb:Nat.beq i j
  ·rfl
  ·exact absurd (Nat.eq_of_beq_eq_true hb).symm hne
theorem qR{j:Nat}(h:pC P ops j=true):CB P ops j=true:=by
 unfold pC at h
 obtain⟨i,hi,h2⟩:=List.any_eq_true.1 h
 unfold CB
 split
 ·rename_i oj gh
  refine List.any_eq_true.2 ⟨i,hi,?_⟩
  split at h2
  ·rename_i oi fK
   simp only[Bool.and_eq_true,Bool.not_eq_true']at h2⊢
   refine⟨⟨h2.1.1,?_⟩,h2.2⟩
   cases hb:TD oj i
   ·rfl
   ·have h3:=h2.1.2
    unfold mG at h3
    simp only[gh]at h3
    unfold TD at hb
    obtain⟨e,he,h4⟩:=List.any_eq_true.1 hb
    rw[←Bool.not_eq_true,List.any_eq_true]at h3
    refine absurd ⟨e,he,?_⟩ h3
    simp only[Bool.and_eq_true,Bool.or_eq_true]at h4⊢
    exact⟨h4.2,.inl h4.1⟩
  ·cases h2
 ·rfl
end
end Go.Sx
namespace Go.Sx
open Go
section
variable {P:Program} {g:Gh} {ds:List Deferred}
def DB(b:Bool)(p q:Prop):Prop:=cond b (p∧q) q
theorem DB.of{b:Bool}{p q:Prop}(h:DB b p q):(b=true→p)∧q:=by
  cases b
  · exact⟨fun e=>(by cases e),h⟩
  · exact⟨fun _=>h.1,h.2⟩
def Hr(P:Program)(ops:Array Oper)(T:List Nat)(i:Nat):Bool:=cond T.isEmpty (CB P ops i) (pC P ops i)
theorem Hq{ops:Array Oper}{T:List Nat}{i:Nat}(h:pC P ops i=true):Hr P ops T i=true:=by
  unfold Hr
  cases T.isEmpty
  · exact h
  · exact qR h
def EV(P:Program)(g:Gh)(n:Nat)(ops:Array Oper)(R:Hp)(K:Fr→Hp→Prop):List Nat→Array Bool→Fr→Hp→Prop
  | [],listed,fr,H=>cond (Region.ready .any ops listed).isEmpty (K fr H) False
  |i::r,listed,fr,H=>
    match ops[i]? with
    |none=>False
    |some o=>
      cond (dA n o.dst&&o.guard.isNone)
        (cond (q8 o.op)
          (cond (Region.free .any ops listed i&& (Region.ready .any ops listed).contains i)
            (yg P g o (ev fr) R fun v=>EV P g n ops R K r (listed.setIfInBounds i true) (bS fr o.dst v) H) False)
          (cond (Region.ready .any ops listed==[i])
            (JL P g o (ev fr) H (fun v H'=>DB (CB P ops i) (aJ H' R) (EV P g n ops R K r (listed.setIfInBounds i true) (bS fr o.dst v) H')) (fun _ _=>False)) False)) False
def oo(Q:Exit→Act→World→Prop):Exit→Act→World→Prop
  | .panic _,_,_=>False
  |e,a,w=>Q e a w
theorem ie{o:Oper}(h:o.guard.isNone=true)(y:Nat→Option Bool):Region.wanted o y=true:=by
  unfold Region.wanted
  cases hg:o.guard<;>simp_all
theorem Own.jw{g:Gh}{H:Hp}{w:World}(h:Own g H w):Own g [] w:=Own.right (A:=H) (B:=[]) (by simpa using h)
theorem eV{listed:Array Bool}{i k:Nat}(hun:listed.getD i true=false)(h:(listed.setIfInBounds i true).getD k true=false):listed.getD k true=false:=by
  by_cases e:i=k
  · rw[←e];exact hun
  · rwa [getD_set_ne true e]at h
theorem oa{n:Nat}{ops:Array Oper}{R:Hp}{K:Fr→Hp→Prop}{Q:Exit→Act→World→Prop}(hs:Region.noSelect ops=true)(tU:Fr)
   (hk:∀a w fr H,ca ds n a fr→Own g H w→dD ops.toList tU fr→K fr H→Q .normal a w):
    ∀(l:List Nat) (listed:Array Bool) (fr:Fr) (H:Hp),EV P g n ops R K l listed fr H→∀(fuel:Nat),l.length≤fuel→dZ .any ops listed→∀(a:Act) (w:World),ca ds n a fr→Own g H w→((∃k ok,ops[k]? =some ok∧sL P ok.op=true∧listed.getD k true=false)→Own g R w)→dD ops.toList tU fr→
      cO P .any ops (oo Q) (mE P g R ops) fuel listed a w
  | [],listed,fr,H,h=>by
    intro fuel _ gT a w ha hw hR ho
    unfold EV at h
    cases hr:(Region.ready .any ops listed).isEmpty<;>simp only[hr,cond_true,cond_false]at h
    exact cO.done (Q:=oo Q) (by simpa using hr) (hk a w fr H ha hw ho h) fuel
  |i::r,listed,fr,H,h=>by
    intro fuel hfuel gT a w ha hw hR ho
    unfold EV at h
    split at h<;>try exact h.elim
    rename_i o fK
    have hmem:o∈ops.toList:=Array.mem_toList_iff.2 (Array.mem_of_getElem? fK)
    have hout:∀v,dD ops.toList tU (bS fr o.dst v):=fun v s hs'=>by
      rw[eN,ho s hs']
      have:∀l:List Oper,o∈l→bA l s=false→bA [({(default:Oper)with dst:=o.dst})] s=false:=by
        intro l
        induction l with
        |nil=>intro h;simp at h
        |cons x y ih=>
          intro hm hi
          rw[cU,Bool.or_eq_false_iff]at hi
          rcases List.mem_cons.1 hm with rfl|hm
          · exact hi.1
          · exact ih hm hi.2
      exact this _ hmem hs'
    cases hc:(dA n o.dst&&o.guard.isNone)<;>simp only[hc,cond_true,cond_false]at h
    simp only[Bool.and_eq_true]at hc
    obtain⟨fuel,rfl⟩:∃f,fuel=f+1:=⟨fuel-1,by simp only[List.length_cons]at hfuel;omega⟩
    have zh:r.length≤fuel:=by simp only[List.length_cons]at hfuel;omega
    cases sO:q8 o.op<;>simp only[sO,cond_true,cond_false]at h
    case true=>
      cases jF:(Region.free .any ops listed i&& (Region.ready .any ops listed).contains i)<;>simp only[jF,cond_true,cond_false]at h
      simp only[Bool.and_eq_true]at jF
      have hun:=(mem_ready.1 (by simpa using jF.2:i∈Region.ready .any ops listed)).1
      have kF:∀w,mE P g R ops i w w:=fun w oj jW=>⟨fun _=>rfl,fun hn=>(by rw[fK]at jW;cases jW;rw[sO]at hn;cases hn)⟩
      cases hn:Qj P o.op
      case true=>
        rw[wc hn (ev fr) R []]at h
        obtain⟨v,hk',hr⟩:=iS h
        refine cO.take gT (S0:=Own g []) fK hs jF.1 jF.2 (fun _ _ _ h=>h) (fun w _=>kF w) (fun j oj w w' gh hj hno h0 hk=>?_) (.inl ⟨ie hc.2 _,fun w' cR=>by rw[ha.eval];exact hr w' cR⟩) hw.jw ?_
        · cases uR:q8 oj.op
          · exact((hk oj gh).2 uR).1
          · rw[(hk oj gh).1 uR];exact h0
        · refine oa hs tU hk r _ _ H hk' fuel zh (gT.step (by simpa using jF.2)) _ w (ha.put hc.1 v) hw ?_ (hout v)
          rintro⟨k,ok,yp,sD,qa⟩
          exact hR ⟨k,ok,yp,sD,eV hun qa⟩
      case false=>
        obtain⟨v,hk',hr⟩:=iS h
        have hrd:sL P o.op=true:=by simp[sL,sO,hn]
        have OM:Own g R w:=hR ⟨i,o,fK,hrd,hun⟩
        refine cO.take gT (S0:=Own g R) fK hs jF.1 jF.2 (fun _ _ _ h=>h) (fun w _=>kF w) (fun j oj w w' gh hj hno h0 hk=>?_) (.inl ⟨ie hc.2 _,fun w' cR=>by rw[ha.eval];exact hr w' cR⟩) OM ?_
        · cases uR:q8 oj.op
          · exact((hk oj gh).2 uR).2 (jx fK hrd hj hno) h0
          · rw[(hk oj gh).1 uR];exact h0
        · exact oa hs tU hk r _ _ H hk' fuel zh (gT.step (by simpa using jF.2)) _ w (ha.put hc.1 v) hw (fun _=>OM) (hout v)
    case false=>
      cases jF:(Region.ready .any ops listed==[i])<;>simp only[jF,cond_true,cond_false]at h
      have hrd:=beq_iff_eq.1 jF
      have rp:i∈Region.ready .any ops listed:=by rw[hrd];simp
      refine cO.all hrd (by simp) fun j hj=>?_
      simp only[List.mem_singleton]at hj
      subst hj
      unfold wpOp
      simp only[fK,ie hc.2,if_true]
      refine .inl ?_
      unfold Oper.wp
      rw[ha.eval]
      refine(qM (lK fr) h w hw).upon (fun v H' w' bE hb=>?_) (fun ch H' w' _ h0=>h0.elim)
      obtain⟨he,hk'⟩:=hb.of
      refine⟨fun oj jW=>⟨fun hp=>(by rw[fK]at jW;cases jW;rw[sO]at hp;cases hp),fun _=>⟨bE.jw,fun hn _=>he (qR hn) _ _ bE⟩⟩,oa hs tU hk r _ _ H' hk' fuel zh (gT.step rp) _ w' (ha.put hc.1 v) bE ?_ (hout v)⟩
      rintro⟨k,ok,yp,sD,qa⟩
      refine he (qR ?_) _ _ bE
      have Ol:j≠k:=fun e=>by
        subst e
        rw[Array.getD_eq_getD_getElem?,Array.getElem?_setIfInBounds_self]at qa
        have:=(mem_ready.1 rp).1
        rw[Array.getD_eq_getD_getElem?]at this
        split at qa
        · simp at qa
        · rename_i hlt;rw[Array.getElem?_eq_none (by omega)]at this;simp at this
      rw[getD_set_ne true Ol]at qa
      refine jx yp sD Ol fun hw=>?_
      rw[gT.ready rp hw]at qa;cases qa
abbrev Mk:=Obj×(Nat→Value)
def kV(elem size bytes:Nat)(zero:Value)(l c:Value)(k:Mk→Prop):Prop:=
  ∃kl kc ln cn,l=.int kl (ln:Nat)∧c=.int kc (cn:Nat)∧ln≤cn∧(cn:Int)≤9223372036854775807∧cn*bytes≤281474976710656∧
    k (.cells (madeCells zero.cells (cn*size)) elem (0,0),fun b=>.slice (some ⟨b,0,none⟩) ln cn)
def jr(P:Program)(t len:Nat)(parts:List (Nat×Value))(k:Mk→Prop):Prop:=
  ∃cs e n z,P.underlying t=some (.slice e)∧cT P e=some n∧dR P e=some z∧len*n≤2^24∧
      Instr.fill (fun i=>some (i*n,n)) ((Array.range (len*n)).map (z.cells[· %z.cells.size]!)) parts=some cs∧k (.cells cs e (0,0),fun b=>.slice (some ⟨b,0,none⟩) len len)
def Claim(P:Program)(o:Oper)(ρ:Operand→Value)(k:Mk→Prop):Prop:=
  match o.op with
  | .alloc t=>match dR P t with
    |some z=>k (.cells z.cells t (0,0),fun b=>.pointer (some ⟨b,0,none⟩))
    |none=>False
  | .makeMap _ none=>k (.map #[] 0,fun b=>.map (some b))
  | .makeSlice t l c=>match P.underlying t with
    |some (.slice e)=>match cT P e,rV P e,dR P e with
      |some n,some b,some z=>kV e n b z (ρ l) (ρ c) k
      |_,_,_=>False
    |_=>False
  | .buildSlice t len parts=>jr P t len (parts.toList.map fun p=>(p.1,ρ p.2)) k
  |_=>False
def uh(P:Program)(o:Oper)(ρ:Operand→Value)(x:Mk):Prop:=∀w,(execOp ρ o).run P w=.ok (.value (x.2 w.heap.size)) (w.alloc x.1)
theorem Claim.makes{o:Oper}{ρ:Operand→Value}{k:Mk→Prop}(h:Claim P o ρ k):∃x,uh P o ρ x∧k x:=by
  unfold Claim at h
  split at h
  · rename_i t hop
    split at h<;>try exact h.elim
    rename_i z hz
    obtain⟨i,hi,sN⟩:=cJ hz
    refine⟨_,fun w=>?_,h⟩
    simp only[execOp,hop]
    simp[Instr.alloc,dU hi sN,newVar,newRow]
  · rename_i t hop
    refine⟨_,fun w=>?_,h⟩
    simp only[execOp,hop]
    simp[Instr.makeMap]
  · rename_i t l c hop
    split at h<;>try exact h.elim
    rename_i e ht
    split at h<;>try exact h.elim
    rename_i n b z hn hb hz
    obtain⟨i,hi,hin⟩:=bF hn
    obtain⟨i',hi',sN⟩:=cJ hz
    obtain⟨i2,mr,ry⟩:=kM hb
    have e1:i'=i:=Option.some.inj (hi'.symm.trans hi)
    have e2:i2=i:=Option.some.inj (mr.symm.trans hi)
    subst e1;subst e2
    obtain⟨kl,kc,ln,cn,hl,hc,hlc,aV,hby,hk⟩:=h
    subst hin;subst ry
    refine⟨_,fun w=>?_,hk⟩
    have e1:IntKind.i64.wrap (ln:Int)=ln:=IntWalk.i64_in _ (by omega)
    have e2:IntKind.i64.wrap (cn:Int)=cn:=IntWalk.i64_in _ (by omega)
    have e3:¬((i2.bytes:Int)*(cn:Int)>281474976710656):=by
      have:((cn*i2.bytes:Nat):Int)≤281474976710656:=by omega
      rw[Int.mul_comm];push_cast at this;omega
    have e4:¬((cn:Int)<ln):=by omega
    simp only[execOp,hop]
    by_cases h0:cn*i2.size=0
    · simp[Instr.makeSlice,run_underlying ht,asInt,asIntOf,typeInfo,hi,hl,hc,e1,e2,e3,e4,sizeOf,zeroValue,sN,newRow,madeCells,h0,show¬((cn:Int)<0)from by omega,show¬((ln:Int)<0)from by omega]
      have:Array.range 0=#[]:=rfl
      simp[this]
    · simp[Instr.makeSlice,run_underlying ht,asInt,asIntOf,typeInfo,hi,hl,hc,e1,e2,e3,e4,sizeOf,zeroValue,sN,newRow,madeCells,h0,show¬((cn:Int)<0)from by omega,show¬((ln:Int)<0)from by omega]
  · rename_i t len parts hop
    obtain⟨cs,e,n,z,ht,hn,hz,hl,hf,hk⟩:=h
    obtain⟨i,hi,hin⟩:=bF hn
    obtain⟨i',hi',sN⟩:=cJ hz
    have:i'=i:=Option.some.inj (hi'.symm.trans hi)
    subst this
    subst hin
    refine⟨_,fun w=>?_,hk⟩
    have hl':¬(len*i'.size>2^24):=by omega
    have nj:(parts.map fun(x:Nat×Operand)=>(x.1,ρ x.2)).toList=parts.toList.map fun p=>(p.1,ρ p.2):=by rw[Array.toList_map]
    by_cases h0:len*i'.size=0
    · simp only[execOp,hop,Instr.buildSlice,Sem.run_bind,run_underlying ht,Result.andThen_ok,run_sizeOf hi,hl',if_false,h0,if_true,Sem.run_pure]
      rw[h0]at hf
      have Et:Array.range 0=#[]:=rfl
      simp only[Et,Array.map_empty,List.map_toArray,List.map_nil]at hf⊢
      rw[nj,hf]
      simp[newRow]
    · simp only[execOp,hop,Instr.buildSlice,Sem.run_bind,run_underlying ht,Result.andThen_ok,run_sizeOf hi,hl',if_false,h0,dU hi sN,Sem.run_pure]
      simp[hf,newRow]
  · exact h.elim
abbrev Cc:=List (Nat×Mk)
def marks:Cc→Nat→Array Bool→Array Bool
  | [],_,l=>l
  |x::r,i,l=>marks r i (cond (Nat.beq x.1 i) l (l.setIfInBounds x.1 true))
def dX(ops:Array Oper)(o:Oper)(i:Nat)(listed:Array Bool):Cc→Bool
  | []=>true
  |x::r=>(Nat.beq x.1 i||listed.getD x.1 true||(match ops[x.1]? with|some of=>of.apart ops o|none=>false)) &&dX ops o i listed r
def er:Cc→Nat→Option Mk
  | [],_=>none
  |x::r,i=>cond (Nat.beq x.1 i) (some x.2) (er r i)
def Jr(listed:Array Bool):Cc→Bool
  | []=>true
  |x::r=>listed.getD x.1 false&&Jr listed r
inductive Hn
  |e
  |h(m:Nat)(L I:List Nat)(a b:Hn)
def Hn.m:Hn→Nat| .e=>0| .h m _ _ _ _=>m
def Hn.L:Hn→List Nat| .e=>[]| .h _ L _ _ _=>L
def Hn.I:Hn→List Nat| .e=>[]| .h _ _ I _ _=>I
def Hn.a:Hn→Hn| .e=>.e| .h _ _ _ a _=>a
def Hn.b:Hn→Hn| .e=>.e| .h _ _ _ _ b=>b
def Br(v:Value)(t f:Prop):Prop:=∃b,v=.bool b∧(b=true→t)∧(b=false→f)
def NT(p:Oper)(fr:Fr):Value:=
  match p.op with
  | .move x=>ev fr x
  | .assign x=>ev fr x
  |_=>mT p fr
def Er(p:Oper):Bool:=match p.op with| .pick .. =>true| .move _=>true| .assign _=>true|_=>false
theorem HJ{p:Oper}{fr:Fr}{t:Bool}(hp:Er p=true)(h:NT p fr=.bool t)(w:World):(execOp (ev fr) p).run P w=.ok (.value (.bool t)) w:=by
  unfold Er at hp
  unfold NT at h
  split at h
  · rename_i x hop;simp only[execOp,hop,h];rfl
  · rename_i x hop;simp only[execOp,hop,h];rfl
  · rename_i h1 h2
    split at hp
    · rename_i hop;exact mS (by unfold oN;rw[hop]) h w
    · rename_i x hop;exact absurd hop (h1 x)
    · rename_i x hop;exact absurd hop (h2 x)
    · cases hp
theorem HP{p:Oper}(hp:Er p=true):q8 p.op=true:=by
  unfold Er at hp
  split at hp<;>first|(rename_i hop;rw[hop];rfl)|cases hp
def ur(ops:Array Oper)(fr:Fr)(o:Oper):Option Bool:=
  match o.guard with
  |none=>some true
  |some (j,want)=>match dG ops j with
    |none=>none
    |some s=>match fr s with
      | .bool b=>some (b==want)
      | .tuple _=>some false
      |_=>none
def m7(P:Program)(g:Gh)(n:Nat)(ops:Array Oper)(R:Hp)(K:Fr→Hp→Prop):Hn→Cc→Array Bool→Fr→Hp→Prop
  | .e,cl,listed,fr,H=>cond ((Region.ready .any ops listed).isEmpty&&Jr listed cl) (K fr H) False
  | .h m L T pa pb,cl,listed,fr,H=>
    match L with
    | [i]=>
      match ops[i]? with
      |none=>False
      |some o=>
        cond (Nat.beq m 1)
          (cond (dA n o.dst&&o.guard.isNone&& !q8 o.op&& !listed.getD i true&&dX ops o i listed cl&& (match er cl i with|none=>true|some _=>false))
            (Claim P o (ev fr) fun x=>m7 P g n ops R K pa ((i,x)::cl) listed fr H) False)
          (cond (dA n o.dst&&dX ops o i listed cl&& (Region.ready .any ops listed).contains i)
            (match ur ops fr o with
            |none=>False
            |some false=>cond (Region.free .any ops listed i&& (match er cl i with|none=>true|some _=>false)) (m7 P g n ops R K pa cl (listed.setIfInBounds i true) (bS fr o.dst undef) H) False
            |some true=>
              cond (Nat.beq m 3) (cond (Er o&&Region.free .any ops listed i) (match NT o fr with
                | .bool b=>m7 P g n ops R K pa cl (listed.setIfInBounds i true) (bS fr o.dst (.bool b)) H
                |_=>False) False)
              (cond (q8 o.op)
                (cond (Region.free .any ops listed i)
                  (yg P g o (ev fr) R fun v=>cond (Nat.beq m 0) (m7 P g n ops R K pa cl (listed.setIfInBounds i true) (bS fr o.dst v) H)
                    (Br v (m7 P g n ops R K pa cl (listed.setIfInBounds i true) (bS fr o.dst (.bool true)) H) (m7 P g n ops R K pb cl (listed.setIfInBounds i true) (bS fr o.dst (.bool false)) H))) False)
                (cond (Region.ready .any ops (marks cl i listed)==[i])
                  (match er cl i with
                    |some x=>dP H x.1 fun b H'=>m7 P g n ops R K pa cl (listed.setIfInBounds i true) (bS fr o.dst (x.2 b)) H'
                    |none=>∀F,JL P (g.add F) o (ev fr) H (fun v H'=>DB (Hr P ops T i) (aJ H' R) (m7 P g n ops R K pa cl (listed.setIfInBounds i true) (bS fr o.dst v) H')) (fun _ _=>False)) False))) False)
    |_=>False
theorem I6{cl:Cc}{i:Nat}{x:Mk}(h:er cl i=some x):(i,x)∈cl:=by
  induction cl with
  |nil=>simp[er]at h
  |cons y r ih=>
    simp only[er]at h
    cases hb:Nat.beq y.1 i<;>simp only[hb,cond_true,cond_false]at h
    · exact List.mem_cons_of_mem _ (ih h)
    · have:=Nat.eq_of_beq_eq_true hb
      simp only[Option.some.injEq]at h
      subst this;subst h;exact List.mem_cons_self
theorem EO{cl:Cc}{i:Nat}(h:i∈cl.map Prod.fst):∃x,er cl i=some x:=by
  induction cl with
  |nil=>simp at h
  |cons y r ih=>
    simp only[er]
    cases hb:Nat.beq y.1 i
    · simp only[cond_false]
      rw[List.map_cons,List.mem_cons]at h
      rcases h with h|h
      · subst h;simp at hb
      · exact ih h
    · exact⟨_,rfl⟩
theorem gV{cl:Cc}{i:Nat}{x:Mk}(h:er cl i=some x):i∈cl.map Prod.fst:=List.mem_map.2 ⟨_,I6 h,rfl⟩
theorem tC{l:Cc}{i:Nat}{b:Array Bool}{k:Nat}:(marks l i b)[k]? =if k∈l.map Prod.fst∧k≠i∧k<b.size then some true else b[k]? :=by
  induction l generalizing b with
  |nil=>simp[marks]
  |cons y r ih=>
    simp only[marks]
    cases hy:Nat.beq y.1 i
    · have hne:y.1≠i:=fun e=>by rw[e]at hy;simp at hy
      simp only[cond_false,ih,Array.size_setIfInBounds]
      by_cases hk:k∈r.map Prod.fst∧k≠i∧k<b.size
      · rw[if_pos hk,if_pos ⟨by rw[List.map_cons];exact List.mem_cons_of_mem _ hk.1,hk.2⟩]
      · rw[if_neg hk]
        by_cases e:y.1=k
        · subst e
          by_cases hlt:y.1<b.size
          · rw[if_pos ⟨by simp,hne,hlt⟩,Array.getElem?_setIfInBounds_self_of_lt hlt]
          · rw[if_neg (fun h=>hlt h.2.2),Array.getElem?_eq_none (by simp;omega),Array.getElem?_eq_none (by omega)]
        · rw[Array.getElem?_setIfInBounds_ne e,if_neg]
          rintro⟨h1,h2⟩
          rw[List.map_cons,List.mem_cons]at h1
          rcases h1 with h1|h1
          · exact e h1.symm
          · exact hk ⟨h1,h2⟩
    · have he:=Nat.eq_of_beq_eq_true hy
      simp only[cond_true,ih]
      by_cases hk:k∈r.map Prod.fst∧k≠i∧k<b.size
      · rw[if_pos hk,if_pos ⟨by rw[List.map_cons];exact List.mem_cons_of_mem _ hk.1,hk.2⟩]
      · rw[if_neg hk,if_neg]
        rintro⟨h1,h2,h3⟩
        rw[List.map_cons,List.mem_cons]at h1
        rcases h1 with h1|h1
        · exact h2 (h1.trans he)
        · exact hk ⟨h1,h2,h3⟩
theorem eG{ops:Array Oper}{o:Oper}{i:Nat}{listed:Array Bool}{l:Cc}(h:dX ops o i listed l=true){f:Nat}(hf:f∈l.map Prod.fst)(hne:f≠i)(hun:listed.getD f true=false):
    ∃of,ops[f]? =some of∧of.apart ops o=true:=by
  induction l with
  |nil=>simp at hf
  |cons x r ih=>
    simp only[dX,Bool.and_eq_true,Bool.or_eq_true]at h
    rw[List.map_cons]at hf
    rcases List.mem_cons.1 hf with rfl|hf
    · rcases h.1 with(h1|h1)|h1
      · exact absurd (Nat.eq_of_beq_eq_true h1) hne
      · rw[hun]at h1;simp at h1
      · split at h1
        · rename_i of ho;exact⟨of,ho,h1⟩
        · simp at h1
    · exact ih h.2 hf
theorem zY{ops:Array Oper}{x y:Oper}(h:x.apart ops y=true):y.apart ops x=true:=by
  unfold Oper.apart at*
  cases hx:x.dst<;>cases hy:y.dst<;>simp_all
  exact fun e=>h.1.2 e.symm
theorem oU{ops:Array Oper}{l l':Array Bool}{i:Nat}(h:Region.free .any ops l i=true)(hm:∀k,l.getD k true=true→l'.getD k true=true):Region.free .any ops l' i=true:=by
  unfold Region.free at*
  split at h
  · simp at h
  · rename_i oi fK
    rw[List.all_eq_true]at h⊢
    intro j hj
    have:=h j hj
    simp only[Bool.or_eq_true]at this⊢
    rcases this with(h1|h1)|h1
    · exact .inl (.inl h1)
    · exact .inl (.inr (hm j h1))
    · exact .inr h1
abbrev Early:=List (Nat×Nat×Mk)
def Nj(E:Early):Hp:=E.map fun x=>(x.2.1,x.2.2.1)
structure O9(P:Program)(n:Nat)(ops:Array Oper)(listed:Array Bool)(cl:Cc)(fr:Fr)(j:Nat)(x:Mk)(o:Oper):Prop where
  op:ops[j]? =some o
  wg:q8 o.op=false
  dst:dA n o.dst=true
  gd:o.guard.isNone=true
  makes:uh P o (ev fr) x
  Ti:∀k y,er cl k=some y→k≠j→listed.getD k true=false→∃ok,ops[k]? =some ok∧ok.apart ops o=true
structure jl(P:Program)(n:Nat)(ops:Array Oper)(cl:Cc)(listed la:Array Bool)(E:Early)(fr fa:Fr):Prop where
  mem:∀x∈E,er cl x.1=some x.2.2∧listed.getD x.1 true=false
  nd:(E.map Prod.fst).Nodup
  la:∀k,la[k]? =if k∈E.map Prod.fst then some true else listed[k]?
  out:∀s,(∀x∈E,dG ops x.1≠some s)→fa s=fr s
  at_:∀x∈E,∀d,dG ops x.1=some d→fa d=x.2.2.2 x.2.1
  cl:∀j x,er cl j=some x→listed.getD j true=false→∃o,O9 P n ops listed cl fr j x o
section
variable {n:Nat} {ops:Array Oper} {cl:Cc} {listed la:Array Bool} {E:Early} {fr fa:Fr}
theorem jl.more(h:jl P n ops cl listed la E fr fa){k:Nat}{b:Bool}(hk:listed.getD k b=true):la.getD k b=true:=by
  have:=h.la k
  rw[Array.getD_eq_getD_getElem?]at hk⊢
  rw[this]
  split
  · rfl
  · exact hk
theorem jl.ready(h:jl P n ops cl listed la E fr fa){i:Nat}(hi:i∉E.map Prod.fst)(hr:i∈Region.ready .any ops listed):i∈Region.ready .any ops la:=by
  rw[mem_ready]at hr⊢
  obtain⟨h1,o,ho,aB⟩:=hr
  refine⟨?_,o,ho,fun e he hb=>h.more (aB e he hb)⟩
  have:=h.la i
  rw[Array.getD_eq_getD_getElem?]at h1⊢
  rw[this,if_neg hi];exact h1
theorem Mj{i k:Nat}(h:(listed.setIfInBounds i true).getD k true=false):i≠k∧listed.getD k true=false:=by
  by_cases e:i=k
  · subst e
    rw[Array.getD_eq_getD_getElem?]at h
    rcases Nat.lt_or_ge i listed.size with hl|hl
    · rw[Array.getElem?_setIfInBounds_self_of_lt hl]at h;cases h
    · rw[Array.getElem?_eq_none (by simpa using hl)]at h;cases h
  · exact⟨e,by rwa [getD_set_ne true e]at h⟩
theorem uh.congr{o o':Oper}{x:Mk}{v:Value}(h:uh P o (ev fr) x)(hs:∀cs b,o.op≠.select cs b)(hap:o.apart ops o'=true):uh P o (ev (bS fr o'.dst v)) x:=by
  have e:execOp (ev (bS fr o'.dst v)) o=execOp (ev fr) o:=by
    refine execOp_congr o hs fun y hy=>?_
    cases y with
    |tmp t=>
      obtain⟨_,_,h3⟩:=Oper.apart_spec hap
      cases hd:o'.dst with
      |none=>rfl
      |some d=>
        have:=h3 d hd
        have hne:Nat.beq t d=false:=by
          cases hb:Nat.beq t d
          · rfl
          · have e:=Nat.eq_of_beq_eq_true hb;subst e
            refine absurd ?_ this
            exact List.mem_append_left _ (List.mem_filterMap.2 ⟨Operand.tmp t,by simpa using hy,rfl⟩)
        simp only[ev,bS,hne,cond_false]
    |const v=>rfl
    |global g=>rfl
    |func f=>rfl
  intro w;rw[e];exact h w
theorem Jg(hs:Region.noSelect ops=true)(jt:∀j x,er cl j=some x→listed.getD j true=false→∃o,O9 P n ops listed cl fr j x o){i:Nat}{o:Oper}(hap:dX ops o i listed cl=true)(v:Value):
    ∀j x,er cl j=some x→(listed.setIfInBounds i true).getD j true=false→∃oj,O9 P n ops (listed.setIfInBounds i true) cl (bS fr o.dst v) j x oj:=by
  intro j x hx hun
  obtain⟨hne,Lg⟩:=Mj hun
  obtain⟨oj,h⟩:=jt j x hx Lg
  obtain⟨VS,bE,UP⟩:=eG hap (gV hx) (Ne.symm hne) Lg
  rw[h.op]at bE;cases bE
  exact⟨oj,h.op,h.wg,h.dst,h.gd,h.makes.congr (fun cs b=>Region.noSelect_spec hs j oj cs b h.op) UP,fun k y hk Po QY=>h.Ti k y hk Po (Mj QY).2⟩
theorem jl.step(hs:Region.noSelect ops=true)(h:jl P n ops cl listed la E fr fa){i:Nat}{o:Oper}(fK:ops[i]? =some o)(hi:i∉E.map Prod.fst)
   (rC:dX ops o i listed cl=true)(v:Value):jl P n ops cl (listed.setIfInBounds i true) (la.setIfInBounds i true) E (bS fr o.dst v) (bS fa o.dst v):=by
  have hap:∀x∈E,∃of,ops[x.1]? =some of∧of.apart ops o=true:=fun x hx=>
      eG rC (gV (h.mem x hx).1) (fun e=>hi (e▸List.mem_map_of_mem hx)) (h.mem x hx).2
  have hsz:la[i]? =listed[i]? :=by rw[h.la i,if_neg hi]
  refine⟨fun x hx=>⟨(h.mem x hx).1,?_⟩,h.nd,fun k=>?_,fun s hs=>?_,fun x hx d hd=>?_,Jg hs h.cl rC v⟩
  · have hne:i≠x.1:=fun e=>hi (e▸List.mem_map_of_mem hx)
    rw[getD_set_ne true hne];exact(h.mem x hx).2
  · by_cases e:i=k
    · subst e
      rw[if_neg hi,Array.getElem?_setIfInBounds,Array.getElem?_setIfInBounds]
      simp only[if_true]
      have:i<la.size↔i<listed.size:=by
        constructor
        · intro hlt;rw[Array.getElem?_eq_getElem hlt]at hsz;exact(Array.getElem?_eq_some_iff.1 hsz.symm).1
        · intro hlt;rw[Array.getElem?_eq_getElem hlt]at hsz;exact(Array.getElem?_eq_some_iff.1 hsz).1
      by_cases hlt:i<la.size
      · rw[if_pos hlt,if_pos (this.1 hlt)]
      · rw[if_neg hlt,if_neg (fun x=>hlt (this.2 x))]
    · rw[Array.getElem?_setIfInBounds_ne e,Array.getElem?_setIfInBounds_ne e];exact h.la k
  · cases hd:o.dst with
    |none=>exact h.out s hs
    |some d=>
      simp only[bS]
      cases Nat.beq s d
      · exact h.out s hs
      · rfl
  · obtain⟨of,Ik,hap⟩:=hap x hx
    obtain⟨h1,h2,h3⟩:=Oper.apart_spec hap
    have Od:of.dst=some d:=by simpa[dG,Ik]using hd
    have:=h2 d Od
    cases UF:o.dst with
    |none=>exact h.at_ x hx d hd
    |some d'=>
      have hne:Nat.beq d d'=false:=by
        cases hb:Nat.beq d d'
        · rfl
        · have e:=Nat.eq_of_beq_eq_true hb;subst e;exact absurd UF this
      simp only[bS,hne,cond_false];exact h.at_ x hx d hd
theorem jl.exec(h:jl P n ops cl listed la E fr fa){o:Oper}
   (hap:∀x∈E,∃of,ops[x.1]? =some of∧of.apart ops o=true)(hs:∀cs b,o.op≠.select cs b):execOp (ev fa) o=execOp (ev fr) o:=by
  refine execOp_congr o hs fun x hx=>?_
  cases x with
  |tmp t=>
    refine h.out t fun y hy e=>?_
    obtain⟨of,Ik,hap⟩:=hap y hy
    obtain⟨h1,_,_⟩:=Oper.apart_spec hap
    refine h1 t (by simpa[dG,Ik]using e) ?_
    exact List.mem_append_left _ (List.mem_filterMap.2 ⟨.tmp t,by simpa using hx,rfl⟩)
  |const v=>rfl
  |global g=>rfl
  |func f=>rfl
theorem jl.early(h:jl P n ops cl listed la E fr fa){j b:Nat}{x:Mk}(hj:er cl j=some x)(Iw:j∉E.map Prod.fst)(hun:listed.getD j true=false)
   {o:Oper}(ho:ops[j]? =some o):jl P n ops cl listed (la.setIfInBounds j true) ((j,b,x)::E) fr (bS fa o.dst (x.2 b)):=by
  obtain⟨o',jt⟩:=h.cl j x hj hun
  have bE:=jt.op
  rw[ho]at bE;cases bE
  have OG:∀y∈E,∃of,ops[y.1]? =some of∧of.apart ops o=true:=fun y hy=>
    jt.Ti y.1 _ (h.mem y hy).1 (fun e=>Iw (e▸List.mem_map_of_mem hy)) (h.mem y hy).2
  have Uk:j<la.size:=by
    have hl:=h.la j
    rw[if_neg Iw]at hl
    have h2:j<listed.size:=by
      rcases Nat.lt_or_ge j listed.size with h2|h2
      · exact h2
      · rw[Array.getD_eq_getD_getElem?,Array.getElem?_eq_none h2]at hun;simp at hun
    rw[Array.getElem?_eq_getElem h2]at hl
    exact(Array.getElem?_eq_some_iff.1 hl).1
  refine⟨fun y hy=>?_,?_,fun k=>?_,fun s hs=>?_,fun y hy d hd=>?_,h.cl⟩
  · rcases List.mem_cons.1 hy with rfl|hy
    · exact⟨hj,hun⟩
    · exact h.mem y hy
  · rw[List.map_cons,List.nodup_cons];exact⟨Iw,h.nd⟩
  · by_cases e:j=k
    · subst e;rw[if_pos (by simp),Array.getElem?_setIfInBounds_self_of_lt Uk]
    · rw[Array.getElem?_setIfInBounds_ne e,h.la k]
      by_cases hk:k∈E.map Prod.fst
      · rw[if_pos hk,if_pos (by rw[List.map_cons];exact List.mem_cons_of_mem _ hk)]
      · rw[if_neg hk,if_neg]
        rw[List.map_cons,List.mem_cons]
        rintro(h1|hk')
        · exact e h1.symm
        · exact hk hk'
  · have hne:=hs (j,b,x) (by simp)
    simp only[dG,ho]at hne
    rw[show bS fa o.dst (x.2 b) s=fa s from ?_]
    · exact h.out s fun y hy=>hs y (by simp[hy])
    · cases hd:o.dst with
      |none=>rfl
      |some d=>
        rw[hd]at hne
        have:Nat.beq s d=false:=by
          cases hb:Nat.beq s d
          · rfl
          · exact absurd (congrArg some (Nat.eq_of_beq_eq_true hb).symm) hne
        simp only[bS,this,cond_false]
  · rcases List.mem_cons.1 hy with rfl|hy
    · simp only[dG,ho]at hd
      rw[hd];simp[bS]
    · obtain⟨of,Ik,hap⟩:=OG y hy
      obtain⟨_,h2,_⟩:=Oper.apart_spec hap
      have Od:of.dst=some d:=by simpa[dG,Ik]using hd
      have:=h2 d Od
      cases UF:o.dst with
      |none=>exact h.at_ y hy d hd
      |some d'=>
        have hne:Nat.beq d d'=false:=by
          cases hb:Nat.beq d d'
          · rfl
          · have e:=Nat.eq_of_beq_eq_true hb;subst e;exact absurd UF this
        simp only[bS,hne,cond_false];exact h.at_ y hy d hd
theorem jl.pT(hs:Region.noSelect ops=true){E1 E2:Early}{j b:Nat}{x:Mk}(h:jl P n ops cl listed la (E1++(j,b,x)::E2) fr fa){o:Oper}(ho:ops[j]? =some o)(rC:dX ops o j listed cl=true):
    jl P n ops cl (listed.setIfInBounds j true) la (E1++E2) (bS fr o.dst (x.2 b)) fa:=by
  have fB:=h.nd
  rw[List.map_append,List.map_cons]at fB
  have Pq:j∉(E1++E2).map Prod.fst:=by
    have:=(List.perm_middle.nodup_iff.1 fB)
    rw[List.nodup_cons]at this
    rw[List.map_append];exact this.1
  have hsub:∀y,y∈E1++E2→y∈E1++(j,b,x)::E2:=fun y hy=>by
    rcases List.mem_append.1 hy with hy|hy<;>simp[hy]
  have Iv:j<listed.size:=by
    have h2:=(h.mem (j,b,x) (by simp)).2
    rcases Nat.lt_or_ge j listed.size with h3|h3
    · exact h3
    · simp only at h2;rw[Array.getD_eq_getD_getElem?,Array.getElem?_eq_none h3]at h2;simp at h2
  refine⟨fun y hy=>⟨(h.mem y (hsub y hy)).1,?_⟩,?_,fun k=>?_,fun s hs=>?_,fun y hy d hd=>h.at_ y (hsub y hy) d hd,Jg hs h.cl rC _⟩
  · have hne:j≠y.1:=fun e=>Pq (e▸List.mem_map_of_mem hy)
    rw[getD_set_ne true hne];exact(h.mem y (hsub y hy)).2
  · have:=(List.perm_middle.nodup_iff.1 fB)
    rw[List.nodup_cons]at this
    rw[List.map_append];exact this.2
  · have hk:=h.la k
    by_cases e:j=k
    · subst e
      rw[if_pos (by simp)]at hk
      rw[hk,if_neg Pq,Array.getElem?_setIfInBounds_self_of_lt Iv]
    · rw[Array.getElem?_setIfInBounds_ne e,hk]
      have:k∈(E1++(j,b,x)::E2).map Prod.fst↔k∈(E1++E2).map Prod.fst:=by
        simp only[List.map_append,List.map_cons,List.mem_append,List.mem_cons]
        constructor
        · rintro(h|rfl|h)
          · exact .inl h
          · exact absurd rfl e
          · exact .inr h
        · rintro(h|h)
          · exact .inl h
          · exact .inr (.inr h)
      simp only[this]
  · by_cases e:dG ops j=some s
    · rw[h.at_ (j,b,x) (by simp) s e]
      simp only[dG,ho]at e
      rw[e];simp[bS]
    · rw[h.out s fun y hy=>?_]
      · simp only[dG,ho]at e
        cases hd:o.dst with
        |none=>rfl
        |some d=>
          rw[hd]at e
          have:Nat.beq s d=false:=by
            cases hb:Nat.beq s d
            · rfl
            · exact absurd (congrArg some (Nat.eq_of_beq_eq_true hb).symm) e
          simp only[bS,this,cond_false]
      · rcases List.mem_append.1 hy with hy|hy
        · exact hs y (by simp[hy])
        · rcases List.mem_cons.1 hy with rfl|hy
          · exact e
          · exact hs y (by simp[hy])
theorem jl.R4(h:jl P n ops cl listed la E fr fa){i:Nat}{o:Oper}{x:Mk}(ho:ops[i]? =some o)(hd:dA n o.dst=true)(hg:o.guard.isNone=true)(hp:q8 o.op=false)(hun:listed.getD i true=false)
   (hap:dX ops o i listed cl=true)(hno:er cl i=none)(hm:uh P o (ev fr) x):jl P n ops ((i,x)::cl) listed la E fr fa:=by
  have hne:∀j y,er cl j=some y→j≠i:=fun j y hj e=>by subst e;rw[hno]at hj;cases hj
  have hex:∀j y,er cl j=some y→er ((i,x)::cl) j=some y:=fun j y hj=>by
    have:Nat.beq i j=false:=by
      cases hb:Nat.beq i j
      · rfl
      · exact absurd (Nat.eq_of_beq_eq_true hb).symm (hne j y hj)
    simp only[er,this,cond_false];exact hj
  have Ow:∀j y,er ((i,x)::cl) j=some y→(j=i∧y=x)∨(j≠i∧er cl j=some y):=fun j y hj=>by
    simp only[er]at hj
    cases hb:Nat.beq i j<;>simp only[hb,cond_true,cond_false]at hj
    · exact .inr ⟨fun e=>by subst e;simp at hb,hj⟩
    · exact .inl ⟨(Nat.eq_of_beq_eq_true hb).symm,by simpa using hj.symm⟩
  refine⟨fun y hy=>⟨hex _ _ (h.mem y hy).1,(h.mem y hy).2⟩,h.nd,h.la,h.out,h.at_,fun j y hj hu=>?_⟩
  rcases Ow j y hj with⟨rfl,rfl⟩|⟨On,MP⟩
  · refine⟨o,ho,hp,hd,hg,hm,fun k z hk Po QY=>?_⟩
    rcases Ow k z hk with⟨rfl,rfl⟩|⟨_,hk⟩
    · exact absurd rfl Po
    · exact eG hap (gV hk) Po QY
  · obtain⟨oj,hc⟩:=h.cl j y MP hu
    refine⟨oj,hc.op,hc.wg,hc.dst,hc.gd,hc.makes,fun k z hk Po QY=>?_⟩
    rcases Ow k z hk with⟨rfl,rfl⟩|⟨_,hk⟩
    · obtain⟨VS,h1,h2⟩:=eG hap (gV MP) On hu
      rw[hc.op]at h1;cases h1
      exact⟨o,ho,zY h2⟩
    · exact hc.Ti k z hk Po QY
end
theorem ER{E1 E2:Early}{y:Nat×Nat×Mk}:(Nj (E1++y::E2)).Perm ((y.2.1,y.2.2.1)::Nj (E1++E2)):=by
  unfold Nj
  rw[List.map_append,List.map_cons,List.map_append]
  exact List.perm_middle
def cnt:List Bool→Nat
  | []=>0
  |b::r=>cond b 0 1+cnt r
theorem Dg:∀(l:List Bool) (i:Nat),l[i]? =some false→cnt (l.set i true)+1=cnt l
  | [],i,h=>by simp at h
  |b::r,0,h=>by simp only[List.getElem?_cons_zero,Option.some.injEq]at h;subst h;simp only[List.set_cons_zero,cnt,cond_true,cond_false];omega
  |b::r,i+1,h=>by
    simp only[List.getElem?_cons_succ]at h
    have:=Dg r i h
    simp only[List.set_cons_succ,cnt];omega
theorem sU(n:Nat):cnt (List.replicate n false)=n:=by
  induction n with
  |zero=>rfl
  |succ n ih=>simp only[List.replicate_succ,cnt,ih,cond_false];omega
theorem eL{a:Array Bool}{i:Nat}(h:a.getD i true=false):a[i]? =some false:=by
  rw[Array.getD_eq_getD_getElem?]at h
  cases hg:a[i]? with
  |none=>rw[hg]at h;simp at h
  |some b=>rw[hg]at h;simpa using h
theorem kL{a:Array Bool}{i fuel:Nat}(h:a.getD i true=false)(hf:cnt a.toList≤fuel):∃f,fuel=f+1∧cnt (a.setIfInBounds i true).toList≤f:=by
  have h1:=eL h
  have h2:a.toList[i]? =some false:=by rw[Array.getElem?_toList];exact h1
  have:=Dg _ _ h2
  refine⟨fuel-1,by omega,?_⟩
  have:(a.setIfInBounds i true).toList=a.toList.set i true:=by simp
  rw[this];omega
theorem E8{listed:Array Bool}{l:Cc}(h:Jr listed l=true){f:Nat}(hf:f∈l.map Prod.fst):listed.getD f false=true:=by
  induction l with
  |nil=>simp at hf
  |cons x r ih=>
    simp only[Jr,Bool.and_eq_true]at h
    rw[List.map_cons]at hf
    rcases List.mem_cons.1 hf with rfl|hf
    · exact h.1
    · exact ih h.2 hf
theorem LQ{a:Array Bool}{i:Nat}(h:a.getD i false=true):a.getD i true=true:=by
  rw[Array.getD_eq_getD_getElem?]at*
  cases hg:a[i]? with
  |none=>rfl
  |some b=>rw[hg]at h;simpa using h
theorem dV{n:Nat}{ops:Array Oper}{R:Hp}{K:Fr→Hp→Prop}{Q:Exit→Act→World→Prop}(hs:Region.noSelect ops=true)(tU:Fr)
   (hk:∀a w fr H,ca ds n a fr→Own g H w→dD ops.toList tU fr→K fr H→Q .normal a w):
    ∀(fuel:Nat) (l:Hn) (cl:Cc) (listed:Array Bool) (fr:Fr) (H:Hp),m7 P g n ops R K l cl listed fr H→∀(E:Early) (la:Array Bool) (fa:Fr),cnt la.toList≤fuel→jl P n ops cl listed la E fr fa→dZ .any ops la→
      ∀(a:Act) (w:World),ca ds n a fa→Own (g.add (Nj E)) H w→((∃k ok,ops[k]? =some ok∧sL P ok.op=true∧la.getD k true=false)→Own g R w)→dD ops.toList tU fr→
      cO P .any ops (oo Q) (mE P g R ops) fuel la a w
  |fuel,.e,cl,listed,fr,H,h=>by
    intro E la fa hfuel hE gT a w ha hw hR ho
    unfold m7 at h
    cases hr:((Region.ready .any ops listed).isEmpty&&Jr listed cl)<;>simp only[hr,cond_true,cond_false]at h
    simp only[Bool.and_eq_true]at hr
    have hr':Region.ready .any ops listed=[]:=by simpa using hr.1
    have ZB:E=[]:=by
      cases E with
      |nil=>rfl
      |cons x y=>
        have h1:=hE.mem x (by simp)
        have h2:=LQ (E8 hr.2 (gV h1.1))
        rw[h1.2]at h2;cases h2
    subst ZB
    have UA:fa=fr:=by funext s;exact hE.out s (by simp)
    subst UA
    refine cO.done (Q:=oo Q) ?_ (hk a w fa H ha hw ho h) fuel
    rw[List.eq_nil_iff_forall_not_mem]at hr'⊢
    intro k hk'
    refine hr' k ?_
    rw[mem_ready]at hk'⊢
    obtain⟨h1,o,h2,h3⟩:=hk'
    have hla:=fun k=>hE.la k
    simp only[List.map_nil,List.not_mem_nil,if_false]at hla
    refine⟨?_,o,h2,fun e he hb=>?_⟩
    · rw[Array.getD_eq_getD_getElem?,←hla,←Array.getD_eq_getD_getElem?];exact h1
    · rw[Array.getD_eq_getD_getElem?,←hla,←Array.getD_eq_getD_getElem?];exact h3 e he hb
  |fuel,.h m L T pa pb,cl,listed,fr,H,h=>by
    intro E la fa hfuel hE gT a w ha hw hR ho
    have h0:=h
    unfold m7 at h
    split at h<;>try exact h.elim
    rename_i i
    split at h<;>try exact h.elim
    rename_i o fK
    cases h1:Nat.beq m 1<;>simp only[h1,cond_true,cond_false]at h
    case true=>
      cases hc:(dA n o.dst&&o.guard.isNone&& !q8 o.op&& !listed.getD i true&&dX ops o i listed cl&& (match er cl i with|none=>true|some _=>false))<;>simp only[hc,cond_true,cond_false]at h
      simp only[Bool.and_eq_true,Bool.not_eq_true']at hc
      obtain⟨⟨⟨⟨⟨hd,hg⟩,hp⟩,hun⟩,hap⟩,hno⟩:=hc
      have Ev:er cl i=none:=by
        split at hno
        · assumption
        · cases hno
      obtain⟨x,hm,hk'⟩:=h.makes
      exact dV hs tU hk fuel pa _ listed fr H hk' E la fa hfuel (hE.R4 fK hd hg hp hun hap Ev hm) gT a w ha hw hR ho
    have hmem:o∈ops.toList:=Array.mem_toList_iff.2 (Array.mem_of_getElem? fK)
    have hout:∀v,dD ops.toList tU (bS fr o.dst v):=fun v s hs'=>by
      rw[eN,ho s hs']
      have:∀l:List Oper,o∈l→bA l s=false→bA [({(default:Oper)with dst:=o.dst})] s=false:=by
        intro l
        induction l with
        |nil=>intro h;simp at h
        |cons x y ih=>
          intro hm hi
          rw[cU,Bool.or_eq_false_iff]at hi
          rcases List.mem_cons.1 hm with rfl|hm
          · exact hi.1
          · exact ih hm hi.2
      exact this _ hmem hs'
    cases hc:(dA n o.dst&&dX ops o i listed cl&& (Region.ready .any ops listed).contains i)<;>simp only[hc,cond_true,cond_false]at h
    simp only[Bool.and_eq_true]at hc
    obtain⟨⟨hd,rC⟩,T6⟩:=hc
    have rp:i∈Region.ready .any ops listed:=by simpa using T6
    have hun:=(mem_ready.1 rp).1
    have hap:i∉E.map Prod.fst→∀x∈E,∃of,ops[x.1]? =some of∧of.apart ops o=true:=fun hi x hx=>
      eG rC (gV (hE.mem x hx).1) (fun e=>hi (e▸List.mem_map_of_mem hx)) (hE.mem x hx).2
    have hsel:∀cs b,o.op≠.select cs b:=fun cs b=>Region.noSelect_spec hs i o cs b fK
    have PO:∀j,j∈Region.ready .any ops la→j∉E.map Prod.fst∧listed.getD j true=false:=fun j hj=>by
      have h1:=eL (mem_ready.1 hj).1
      have h2:=hE.la j
      by_cases Iw:j∈E.map Prod.fst
      · rw[if_pos Iw,h1]at h2;cases h2
      · rw[if_neg Iw,h1]at h2
        exact⟨Iw,by rw[Array.getD_eq_getD_getElem?,←h2];rfl⟩
    have early:∀f',fuel=f'+1→(∀j,la.getD j true=false→cnt (la.setIfInBounds j true).toList≤f')→∀j x,j∈Region.ready .any ops la→er cl j=some x→
        wpOp P ops (oo Q) j (fun a' w'=>mE P g R ops j w w'∧cO P .any ops (oo Q) (mE P g R ops) f' (la.setIfInBounds j true) a' w') a w:=by
      intro f' JS l9 j x hj SL
      obtain⟨Iw,Iv⟩:=PO j hj
      obtain⟨oj,jt⟩:=hE.cl j x SL Iv
      have gh:=jt.op
      have uR:=jt.wg
      have Ux:=jt.gd
      have UB:execOp (ev fa) oj=execOp (ev fr) oj:=hE.exec (fun y hy=>jt.Ti y.1 _ (hE.mem y hy).1 (fun e=>Iw (e▸List.mem_map_of_mem hy)) (hE.mem y hy).2) (fun cs b=>Region.noSelect_spec hs j oj cs b gh)
      unfold wpOp
      simp only[gh,ie Ux,if_true]
      refine .inl ?_
      unfold Oper.wp
      rw[ha.eval,UB,jt.makes w]
      simp only[Oper.upon]
      have C7:∀{A:Hp},Own g A w→Own g A (w.alloc x.1):=fun hA=>(hA.alloc x.1).tail
      refine⟨fun VS jW=>⟨fun hp=>?_,fun _=>⟨C7 (Own.fk.2 hw).jw,fun _ h1=>C7 h1⟩⟩,?_⟩
      · rw[gh]at jW;cases jW;rw[uR]at hp;cases hp
      · have rG:=hE.early (b:=w.heap.size) SL Iw Iv gh
        refine dV hs tU hk f' (.h m [i] T pa pb) cl listed fr H h0 ((j,w.heap.size,x)::E) _ _ (l9 j (mem_ready.1 hj).1) rG (gT.step hj) _ _ (ha.put jt.dst _) ?_ ?_ ho
        · have h1:=hw.alloc x.1
          have h2:Own (g.add (Nj E)) (H++[(w.heap.size,x.1)]) (w.alloc x.1):=h1.perm (by exact(List.perm_append_comm (l₁:=[(w.heap.size,x.1)]) (l₂:=H)))
          have h3:=Own.fk.1 h2
          exact h3
        · rintro⟨k,ok,yp,sD,qa⟩
          refine C7 (hR ⟨k,ok,yp,sD,eV (mem_ready.1 hj).1 qa⟩)
    have mq:∀b,ur ops fr o=some b→i∉E.map Prod.fst→Region.wanted o (yielded ops a.tmps)=b:=by
      intro b hb rz
      unfold ur at hb
      unfold Region.wanted
      split at hb
      · rename_i hg;simp only[hg];simpa using hb
      · rename_i j want hg
        simp only[hg]
        split at hb<;>try (cases hb;done)
        rename_i s iq
        rw[ju ha iq]
        have nk:fa s=fr s:=hE.out s fun y hy e=>by
          obtain⟨of,Ik,hap⟩:=hap rz y hy
          obtain⟨h1,_,_⟩:=Oper.apart_spec hap
          refine h1 s (by simpa[dG,Ik]using e) ?_
          refine List.mem_append_right _ ?_
          rw[hg]
          unfold dG at iq
          cases hj:ops[j]? with
          |none=>rw[hj]at iq;cases iq
          |some oj=>rw[hj]at iq;simp only at iq;simp[hj,iq]
        rw[nk]
        split at hb
        · rename_i c hc;rw[hc];simp only[Option.some.injEq]at hb;subst hb;cases c<;>cases want<;>rfl
        · rename_i c hc;rw[hc];simp only[Option.some.injEq]at hb;subst hb;cases want<;>rfl
        · cases hb
    split at h<;>try exact h.elim
    · -- not wanted
      rename_i TR
      cases jF:(Region.free .any ops listed i&& (match er cl i with|none=>true|some _=>false))<;>simp only[jF,cond_true,cond_false]at h
      simp only[Bool.and_eq_true]at jF
      have Ev:er cl i=none:=by
        have:=jF.2
        split at this
        · assumption
        · cases this
      have rz:i∉E.map Prod.fst:=fun hm=>by
        obtain⟨x,hx,e⟩:=List.mem_map.1 hm
        have:=(hE.mem x hx).1
        rw[e,Ev]at this;cases this
      have jD:=hE.ready rz rp
      have oP:=(mem_ready.1 jD).1
      obtain⟨f',rfl,l9⟩:=kL oP hfuel
      have hfree:=oU (l':=la) jF.1 (fun k hk=>hE.more hk)
      have EG:(Region.ready .any ops la).contains i=true:=by simpa using jD
      refine cO.take gT (S0:=Own g []) fK hs hfree EG (fun _ _ _ h=>h) (fun w hw oj gh=>⟨fun _=>rfl,fun _=>⟨hw,fun _ h=>h⟩⟩) (fun j oj w w' gh hj hno h0 hk=>?_) (.inr ⟨mq false TR rz,rfl⟩) (Own.fk.2 hw).jw ?_
      · cases uR:q8 oj.op
        · exact((hk oj gh).2 uR).1
        · rw[(hk oj gh).1 uR];exact h0
      · refine dV hs tU hk f' pa cl _ _ H h E _ _ l9 (hE.step hs fK rz rC _) (gT.step jD) _ w (ha.put hd _) hw ?_ (hout _)
        rintro⟨k,ok,yp,sD,qa⟩
        exact hR ⟨k,ok,yp,sD,eV oP qa⟩
    rename_i TR
    have SN:=mq true TR
    have MV:∀v f' Gc a' w',(cond (Nat.beq m 0) (m7 P g n ops R K pa cl (listed.setIfInBounds i true) (bS fr o.dst v) H)
                    (Br v (m7 P g n ops R K pa cl (listed.setIfInBounds i true) (bS fr o.dst (.bool true)) H) (m7 P g n ops R K pb cl (listed.setIfInBounds i true) (bS fr o.dst (.bool false)) H)))→
        cnt Gc.toList≤f'→jl P n ops cl (listed.setIfInBounds i true) Gc E (bS fr o.dst v) (bS fa o.dst v)→dZ .any ops Gc→ca ds n a' (bS fa o.dst v)→Own (g.add (Nj E)) H w'→
        ((∃k ok,ops[k]? =some ok∧sL P ok.op=true∧Gc.getD k true=false)→Own g R w')→f'<fuel→cO P .any ops (oo Q) (mE P g R ops) f' Gc a' w':=by
      intro v f' Gc a' w' hv h1 h2 IG h3 h4 h5 hlt
      cases hm:Nat.beq m 0<;>simp only[hm,cond_true,cond_false]at hv
      · obtain⟨b,rfl,OD,OC⟩:=hv
        cases b
        · exact dV hs tU hk f' pb cl _ _ H (OC rfl) E Gc _ h1 h2 IG a' w' h3 h4 h5 (hout _)
        · exact dV hs tU hk f' pa cl _ _ H (OD rfl) E Gc _ h1 h2 IG a' w' h3 h4 h5 (hout _)
      · exact dV hs tU hk f' pa cl _ _ H hv E Gc _ h1 h2 IG a' w' h3 h4 h5 (hout _)
    cases h3:Nat.beq m 3<;>simp only[h3,cond_true,cond_false]at h
    case true=>
      cases jF:(Er o&&Region.free .any ops listed i)<;>simp only[jF,cond_true,cond_false]at h
      simp only[Bool.and_eq_true]at jF
      split at h<;>try exact h.elim
      rename_i b QF
      have sO:q8 o.op=true:=HP jF.1
      have rz:i∉E.map Prod.fst:=fun hm=>by
        obtain⟨x,hx,e⟩:=List.mem_map.1 hm
        have h2:=hE.mem x hx
        obtain⟨o',jt⟩:=hE.cl _ _ h2.1 h2.2
        have h3:=jt.op
        rw[e,fK]at h3;cases h3
        have:=jt.wg
        rw[sO]at this;cases this
      have jD:=hE.ready rz rp
      have oP:=(mem_ready.1 jD).1
      obtain⟨f',rfl,l9⟩:=kL oP hfuel
      have hfree:=oU (l':=la) jF.2 (fun k hk=>hE.more hk)
      have EG:(Region.ready .any ops la).contains i=true:=by simpa using jD
      have kF:∀w,mE P g R ops i w w:=fun w oj jW=>⟨fun _=>rfl,fun hn=>(by rw[fK]at jW;cases jW;rw[sO]at hn;cases hn)⟩
      have ED:=hE.exec (hap rz) hsel
      refine cO.take gT (S0:=Own g []) fK hs hfree EG (fun _ _ _ h=>h) (fun w _=>kF w) (fun j oj w w' gh hj hno h0 hk=>?_) (.inl ⟨SN rz,fun w' cR=>by rw[ha.eval,ED];exact HJ jF.1 QF w'⟩) (Own.fk.2 hw).jw ?_
      · cases uR:q8 oj.op
        · exact((hk oj gh).2 uR).1
        · rw[(hk oj gh).1 uR];exact h0
      · refine dV hs tU hk f' pa cl _ _ H h E _ _ l9 (hE.step hs fK rz rC _) (gT.step jD) _ w (ha.put hd _) hw ?_ (hout _)
        rintro⟨k,ok,yp,sD,qa⟩
        exact hR ⟨k,ok,yp,sD,eV oP qa⟩
    cases sO:q8 o.op<;>simp only[sO,cond_true,cond_false]at h
    case true=>
      cases jF:(Region.free .any ops listed i)<;>simp only[jF,cond_true,cond_false]at h
      have rz:i∉E.map Prod.fst:=fun hm=>by
        obtain⟨x,hx,e⟩:=List.mem_map.1 hm
        have h2:=hE.mem x hx
        obtain⟨o',jt⟩:=hE.cl _ _ h2.1 h2.2
        have h3:=jt.op
        rw[e,fK]at h3;cases h3
        have:=jt.wg
        rw[sO]at this;cases this
      have jD:=hE.ready rz rp
      have oP:=(mem_ready.1 jD).1
      obtain⟨f',rfl,l9⟩:=kL oP hfuel
      have hfree:=oU (l':=la) jF (fun k hk=>hE.more hk)
      have EG:(Region.ready .any ops la).contains i=true:=by simpa using jD
      have kF:∀w,mE P g R ops i w w:=fun w oj jW=>⟨fun _=>rfl,fun hn=>(by rw[fK]at jW;cases jW;rw[sO]at hn;cases hn)⟩
      have hst:=fun v=>hE.step hs fK rz rC v
      have ED:=hE.exec (hap rz) hsel
      cases hn:Qj P o.op
      case true=>
        rw[wc hn (ev fr) R []]at h
        obtain⟨v,hk',hr⟩:=iS h
        refine cO.take gT (S0:=Own g []) fK hs hfree EG (fun _ _ _ h=>h) (fun w _=>kF w) (fun j oj w w' gh hj hno h0 hk=>?_) (.inl ⟨SN rz,fun w' cR=>by rw[ha.eval,ED];exact hr w' cR⟩) (Own.fk.2 hw).jw ?_
        · cases uR:q8 oj.op
          · exact((hk oj gh).2 uR).1
          · rw[(hk oj gh).1 uR];exact h0
        · refine MV v f' _ _ w hk' l9 (hst v) (gT.step jD) (ha.put hd v) hw ?_ (by omega)
          rintro⟨k,ok,yp,sD,qa⟩
          exact hR ⟨k,ok,yp,sD,eV oP qa⟩
      case false=>
        obtain⟨v,hk',hr⟩:=iS h
        have hrd:sL P o.op=true:=by simp[sL,sO,hn]
        have OM:Own g R w:=hR ⟨i,o,fK,hrd,oP⟩
        refine cO.take gT (S0:=Own g R) fK hs hfree EG (fun _ _ _ h=>h) (fun w _=>kF w) (fun j oj w w' gh hj hno h0 hk=>?_) (.inl ⟨SN rz,fun w' cR=>by rw[ha.eval,ED];exact hr w' cR⟩) OM ?_
        · cases uR:q8 oj.op
          · exact((hk oj gh).2 uR).2 (jx fK hrd hj hno) h0
          · rw[(hk oj gh).1 uR];exact h0
        · exact MV v f' _ _ w hk' l9 (hst v) (gT.step jD) (ha.put hd v) hw (fun _=>OM) (by omega)
    case false=>
      cases jF:(Region.ready .any ops (marks cl i listed)==[i])<;>simp only[jF,cond_true,cond_false]at h
      have hrd:=beq_iff_eq.1 jF
      by_cases rz:i∈E.map Prod.fst
      · obtain⟨⟨i',b,x⟩,hx,e⟩:=List.mem_map.1 rz
        simp only at e;subst e
        have hex:er cl i'=some x:=(hE.mem _ hx).1
        simp only[hex]at h
        obtain⟨E1,E2,rfl⟩:=List.append_of_mem hx
        have gS:Own (g.add (Nj (E1++E2))) ((b,x.1)::H) w:=by
          have h1:=(Own.fk.2 hw).perm ((List.Perm.append_left H (ER (E1:=E1) (E2:=E2) (y:=(i',b,x)))).trans List.perm_middle)
          exact(Own.fk (A:=(b,x.1)::H)).1 h1
        have hb:b∉H.map Prod.fst:=by
          have:=gS.nd
          rw[List.cons_append,List.map_cons,List.nodup_cons,List.map_append,List.mem_append]at this
          exact fun h=>this.1 (.inl h)
        exact dV hs tU hk fuel pa cl _ _ _ (h b hb) (E1++E2) la fa hfuel (hE.pT hs fK rC) gT a w ha gS hR (hout _)
      · have jD:=hE.ready rz rp
        have oP:=(mem_ready.1 jD).1
        obtain⟨f',rfl,l9⟩:=kL oP hfuel
        have Rk:∀j,la.getD j true=false→cnt (la.setIfInBounds j true).toList≤f':=fun j hj=>by
          obtain⟨f2,h1,h2⟩:=kL hj hfuel
          have:f2=f':=by omega
          subst this;exact h2
        have hst:=fun v=>hE.step hs fK rz rC v
        have ED:=hE.exec (hap rz) hsel
        refine cO.all rfl (fun e=>by rw[e]at jD;simp at jD) fun j hj=>?_
        by_cases On:j=i
        · subst On
          have wg:∀oj,ops[j]? =some oj→q8 oj.op=true→False:=fun oj gh hp=>by rw[fK]at gh;cases gh;rw[sO]at hp;cases hp
          unfold wpOp
          simp only[fK,SN rz,if_true]
          refine .inl ?_
          unfold Oper.wp
          rw[ha.eval,ED]
          cases hex:er cl j with
          |none=>
            simp only[hex]at h
            have h:=h (Nj E)
            refine(qM (lK fr) h w hw).upon (fun v H' w' bE hb=>?_) (fun ch H' w' _ h0=>h0.elim)
            obtain⟨he,hk'⟩:=hb.of
            have RD:pC P ops j=true→Own g R w':=fun hn=>(Own.fk.2 (he (Hq hn) _ _ bE)).left
            refine⟨fun oj jW=>⟨fun hp=>(wg oj jW hp).elim,fun _=>⟨(Own.fk.2 bE).jw,fun hn _=>RD hn⟩⟩,dV hs tU hk f' pa cl _ _ H' hk' E _ _ l9 (hst v) (gT.step jD) _ w' (ha.put hd v) bE ?_ (hout v)⟩
            rintro⟨k,ok,yp,sD,qa⟩
            refine RD ?_
            have Ol:j≠k:=fun e=>by
              subst e
              have h1:=eL oP
              have hlt:=(Array.getElem?_eq_some_iff.1 h1).1
              rw[Array.getD_eq_getD_getElem?,Array.getElem?_setIfInBounds_self_of_lt hlt]at qa
              cases qa
            rw[getD_set_ne true Ol]at qa
            refine jx yp sD Ol fun hw=>?_
            rw[gT.ready jD hw]at qa;cases qa
          |some x=>
            simp only[hex]at h
            obtain⟨oj,jt⟩:=hE.cl j x hex hun
            have gh:=jt.op
            rw[fK]at gh;cases gh
            rw[jt.makes w]
            simp only[Oper.upon]
            have C7:∀{A:Hp},Own g A w→Own g A (w.alloc x.1):=fun hA=>(hA.alloc x.1).tail
            refine⟨fun oj jW=>⟨fun hp=>(wg oj jW hp).elim,fun _=>⟨C7 (Own.fk.2 hw).jw,fun _ h1=>C7 h1⟩⟩,?_⟩
            refine dV hs tU hk f' pa cl _ _ _ (h _ hw.fresh) E _ _ l9 (hst _) (gT.step jD) _ _ (ha.put hd _) (hw.alloc x.1) ?_ (hout _)
            rintro⟨k,ok,yp,sD,qa⟩
            exact C7 (hR ⟨k,ok,yp,sD,eV oP qa⟩)
        · obtain⟨Iw,Iv⟩:=PO j hj
          cases Q1:er cl j with
          |some x=>exact early f' rfl Rk j x hj Q1
          |none=>
          refine absurd ?_ On
          have SL:j∉cl.map Prod.fst:=fun hm=>by
            obtain⟨x,hx⟩:=EO hm
            rw[Q1]at hx;cases hx
          have Wm:j∈Region.ready .any ops (marks cl i listed):=by
            obtain⟨_,oj,gh,aB⟩:=mem_ready.1 hj
            rw[mem_ready]
            refine⟨?_,oj,gh,fun e he hb=>?_⟩
            · rw[Array.getD_eq_getD_getElem?,tC,if_neg (fun h=>SL h.1),←Array.getD_eq_getD_getElem?];exact Iv
            · have h1:=aB e he hb
              have h2:=hE.la e.on
              rw[Array.getD_eq_getD_getElem?]at h1⊢
              rw[tC]
              by_cases hm:e.on∈E.map Prod.fst
              · obtain⟨x,hx,e2⟩:=List.mem_map.1 hm
                have Wh:=eL (hE.mem x hx).2
                rw[e2]at Wh
                have hlt:=(Array.getElem?_eq_some_iff.1 Wh).1
                rw[if_pos ⟨e2▸gV (hE.mem x hx).1,fun e3=>rz (e3▸hm),hlt⟩];rfl
              · rw[if_neg hm]at h2
                split
                · rfl
                · rw[←h2];exact h1
          rw[hrd]at Wm
          simpa using Wm
  termination_by fuel l=>(fuel,SizeOf.sizeOf l)
def pX:Code→Nat→Bool
  | .region _ ops _,s=>bA ops.toList s
  | .seq a b,s=>pX a s||pX b s
  | .cond _ a b,s=>pX a s||pX b s
  | .block _ c,s=>pX c s
  | .loop c,s=>pX c s
  | .skip,_=>false
  | .ret,_=>false
  | .exit _,_=>false
  |_,_=>true
def KN(c:Code):List Nat→Bool
  | []=>true
  |s::r=> !pX c s&&KN c r
def rN(s:Nat):List Nat→Bool
  | []=>false
  |x::r=>Nat.beq s x||rN s r
def KQ:List Nat→List Value→Fr→Fr
  |l::L,v::vs,base=>fun s=>cond (Nat.beq s l) v (KQ L vs base s)
  |_,_,base=>base
def mix(L:List Nat)(vs:List Value)(I:List Nat)(fr gs:Fr):Fr:=KQ L vs fun s=>cond (rN s I) (fr s) (gs s)
def yz(fr:Fr):List Nat→List Value
  | []=>[]
  |s::r=>fr s::yz fr r
def sB:Nat→(List Value→Prop)→Prop
  |0,p=>p []
  |n+1,p=>∀v,sB n fun vs=>p (v::vs)
theorem sB.intro{p:List Value→Prop}(h:∀vs,p vs):∀n,sB n p
  |0=>h _
  |n+1=>fun v=>sB.intro (fun vs=>h (v::vs)) n
theorem sB.elim{p:List Value→Prop}:∀{n:Nat},sB n p→∀vs:List Value,vs.length=n→p vs
  |0,h,vs,e=>by cases vs with|nil=>exact h|cons x y=>simp at e
  |n+1,h,vs,e=>by
    cases vs with
    |nil=>simp at e
    |cons x y=>exact sB.elim (h x) y (by simpa using e)
theorem zx(fr:Fr)(L:List Nat):(yz fr L).length=L.length:=by induction L<;>simp[yz, *]
theorem qT{L I:List Nat}{fr fr':Fr}(h:∀s,rN s I=true→fr' s=fr s):mix L (yz fr' L) I fr fr'=fr':=by
  funext s
  unfold mix
  induction L with
  |nil=>
    simp only[yz,KQ]
    cases he:rN s I
    · rfl
    · exact(h s he).symm
  |cons l L ih=>
    simp only[yz,KQ]
    cases hb:Nat.beq s l
    · exact ih
    · have:=Nat.eq_of_beq_eq_true hb;subst this;rfl
theorem qQ{c:Code}{I:List Nat}(h:KN c I=true):∀s,rN s I=true→pX c s=false:=by
  induction I with
  |nil=>intro s hs;simp[rN]at hs
  |cons x r ih=>
    intro s hs
    simp only[KN,Bool.and_eq_true,Bool.not_eq_true']at h
    simp only[rN,Bool.or_eq_true]at hs
    rcases hs with hs|hs
    · rw[Nat.eq_of_beq_eq_true hs];exact h.1
    · exact ih h.2 s hs
def vN(next:Fr→Hp→Prop)(Q:Exit→Fr→Hp→Prop):Exit→Fr→Hp→Prop
  | .normal,fr,H=>next fr H
  |e,fr,H=>Q e fr H
def Jj(id:Nat)(Q:Exit→Fr→Hp→Prop):Exit→Fr→Hp→Prop
  | .exit id',fr,H=>cond (Nat.beq id' id) (Q .normal fr H) (Q (.exit id') fr H)
  |e,fr,H=>Q e fr H
def JE(J:List Value→Hp→Prop)(vs:List Value)(H:Hp):Prop:=∃H',aJ H H'∧J vs H'
def aq(I:List Value→Hp→Prop)(m:List Value→Hp→Nat)(vs':List Value)(H':Hp)(vs:List Value)(H:Hp):Prop:=∃jk,aJ H' jk∧I vs' jk∧m vs' jk<m vs H
def Loop(L:List Nat)(vs:List Value)(H:Hp)(body:(List Value→Hp→Prop)→List Value→Hp→Prop):Prop:=
  ∃(I:List Value→Hp→Prop) (m:List Value→Hp→Nat),JE I vs H∧sB L.length fun vs=>∀H',I vs H'→body (fun vs' jk=>aq I m vs' jk vs H') vs H'
def Sn(k:Nat)(rest:List Value→Hp→Prop)(body:(List Value→Hp→Prop)→Prop):Prop:=
  ∀J:List Value→Hp→Prop,(sB k fun vs=>∀H,rest vs H→J vs H)→body J
def DR(H:Hp)(body:Hp→Prop):Prop:=∃R,aJ H R∧body R
def mQ:Code→Nat→Option (Array Oper)
  | .region id ops _,k=>cond (Nat.beq id k) (some ops) none
  | .seq a b,k=>match mQ a k with|some x=>some x|none=>mQ b k
  | .cond _ a b,k=>match mQ a k with|some x=>some x|none=>mQ b k
  | .block _ c,k=>mQ c k
  | .loop c,k=>mQ c k
  |_,_=>none
def O0(P:Program)(g:Gh)(id:Nat)(ops:Array Oper)(L:List Nat)(vs:List Value)(H:Hp)(K:Hp→Prop):Prop:=
  ∀a w,fT a.tmps.size ops.toList=true→(L.map fun s=>a.tmps.getD s undef)=vs→Own g H w→
    (Code.region id ops true).wp P (fun e a' w'=>e=.normal∧a'.defers=a.defers∧a'.tmps.size=a.tmps.size∧(∀s,bA ops.toList s=false→a'.tmps.getD s undef=a.tmps.getD s undef)∧∃H',Own g H' w'∧K H') a w
def lZ(f:Func)(r:Nat):Array Oper:=match f.body with|some c=>(match mQ c r with|some ops=>ops|none=>#[])|none=>#[]
theorem LR(fr:Fr)(L:List Nat):yz fr L=L.map fr:=by induction L<;>simp[yz, *]
def den(P:Program)(g:Gh)(n:Nat):Code→Hn→(Exit→Fr→Hp→Prop)→Fr→Hp→Prop
  | .skip,_,Q,fr,H=>Q .normal fr H
  | .ret,_,Q,fr,H=>Q .ret fr H
  | .exit id,_,Q,fr,H=>Q (.exit id) fr H
  | .seq x y,hn,Q,fr,H=>
    match hn.m with
    |0=>den P g n x hn.a (vN (den P g n y hn.b Q) Q) fr H
    |_=>cond (KN x hn.I)
        (Sn hn.L.length (fun vs H'=>∀gs,den P g n y hn.b Q (mix hn.L vs hn.I fr gs) H') fun J=>den P g n x hn.a (vN (fun fr' H'=>JE J (yz fr' hn.L) H') Q) fr H) False
  | .cond c x y,hn,Q,fr,H=>Br (ev fr c) (den P g n x hn.a Q fr H) (den P g n y hn.b Q fr H)
  | .block id c,hn,Q,fr,H=>den P g n c hn.a (Jj id Q) fr H
  | .loop c,hn,Q,fr,H=>
    cond (KN c hn.I)
      (Loop hn.L (yz fr hn.L) H fun J vs H'=>∀gs,den P g n c hn.a (vN (fun fr' jk=>J (yz fr' hn.L) jk) Q) (mix hn.L vs hn.I fr gs) H') False
  | .region id ops draw,hn,Q,fr,H=>
    cond draw
      (match hn.m with
      |0=>match hn.L with
       | []=>cond (P.follows .mixedOrders&&Region.lexB .any ops) (dI P g n ops true (ops.toList.length+1) true none [] ops.toList fr H (fun _ fr' H'=>Q .normal fr' H') (fun _ _=>False)) False
       |l=>cond (P.follows .mixedOrders&&Region.noSelect ops&&Nat.ble l.length ops.size)
          (DR H fun R=>EV P g n ops R (fun fr' H'=>Q .normal fr' H') l (Array.replicate ops.size false) fr H) False
      |9=>cond (fT n ops.toList) (O0 P g id ops hn.L (yz fr hn.L) H fun H'=>∀gs,Q .normal (u6 ops.toList gs fr) H') False
      |_=>cond (P.follows .mixedOrders&&Region.noSelect ops)
          (DR H fun R=>m7 P g n ops R (fun fr' H'=>Q .normal fr' H') hn.a [] (Array.replicate ops.size false) fr H) False)
      (dI P g n ops (match hn.I with| []=>false|_=>true) (ops.toList.length+1) false none [] ops.toList fr H (fun _ fr' H'=>Q .normal fr' H') (fun ch H'=>∀fr',Q (.panic ch) fr' H'))
  |_,_,_,_,_=>False
theorem vH{c:Code}{Q:Exit→Act→World→Prop}{a:Act}{w:World}(R:Act→World→Nat→Prop)(h₀:∃m,R a w m)
   (round:∀a w m,R a w m→c.wp P (Exit.then (fun a' w'=>∃m',m'<m∧R a' w' m') Q) a w):(Code.loop c).wp P Q a w:=by
  intro b k cs
  have key:∀n a w,R a w n→
      ∃e a' w',Q e a' w'∧Arrives P (lone (b.at a (.code c:: .inLoop c::k)) cs w) b k cs e a' w':=by
    intro n
    induction n using Nat.strongRecOn with
    |_ n ih=>
      intro a w hI
      obtain⟨e,a₁,w₁,hq,xj⟩:=round a w n hI b (.inLoop c::k) cs
      cases e with
      |normal=>
        obtain⟨m',hlt,RU⟩:=hq
        obtain⟨e₂,a₂,w₂,QD,LA⟩:=ih m' hlt a₁ w₁ RU
        exact⟨e₂,a₂,w₂,QD,.of_steps (Steps.trans xj (.one step_inLoop)) LA⟩
      |exit id=>exact⟨_,a₁,w₁,hq,.pass (x:=.inLoop c) rfl (fun _ _=>.inl (by simp)) xj⟩
      |goto l=>exact⟨_,a₁,w₁,hq,.pass (x:=.inLoop c) rfl (fun _ _=>.inl (by simp)) xj⟩
      |ret=>exact⟨_,a₁,w₁,hq,.pass (x:=.inLoop c) rfl (fun _ _=>.inl (by simp)) xj⟩
      |panic ch=>exact⟨_,a₁,w₁,hq,.pass (x:=.inLoop c) rfl (fun _ _=>.inl (by simp)) xj⟩
      |outgrown=>exact⟨_,a₁,w₁,hq,.pass (x:=.inLoop c) rfl (fun _ _=>.inl (by simp)) xj⟩
  obtain⟨m,h₀⟩:=h₀
  obtain⟨e,a',w',hq,xj⟩:=key m a w h₀
  exact⟨e,a',w',hq,.of_steps (.one step_loop) xj⟩
def q7:Exit→Bool
  | .panic _=>true
  |_=>false
theorem je{n:Nat}:∀(c:Code) (hn:Hn) (Q:Exit→Fr→Hp→Prop) (fr:Fr) (H:Hp),den P g n c hn Q fr H→∀(a:Act) (w:World),ca ds n a fr→Own g H w→c.wp P (fun e a' w'=>∃fr' H',ca ds n a' fr'∧Own g H' w'∧(q7 e=false→∀s,pX c s=false→fr' s=fr s)∧Q e fr' H') a w:=by
  intro c
  induction c with
  |skip=>intro hn Q fr H h a w ha hw;exact wp_skip ⟨fr,H,ha,hw,fun _ _ _=>rfl,h⟩
  |ret=>intro hn Q fr H h a w ha hw;exact wp_ret ⟨fr,H,ha,hw,fun _ _ _=>rfl,h⟩
  |exit id=>intro hn Q fr H h a w ha hw;exact wp_exit ⟨fr,H,ha,hw,fun _ _ _=>rfl,h⟩
  |seq x y SE SD=>
    intro hn Q fr H h a w ha hw
    unfold den at h
    have P4:∀{LS pM:Fr},(∀s,pX x s=false→LS s=fr s)→(∀s,pX y s=false→pM s=LS s)→∀s,pX (.seq x y) s=false→pM s=fr s:=fun h1 h2 s hs=>by
      simp only[pX,Bool.or_eq_false_iff]at hs
      rw[h2 s hs.2,h1 s hs.1]
    have sJ:∀{LS:Fr},(∀s,pX x s=false→LS s=fr s)→∀s,pX (.seq x y) s=false→LS s=fr s:=fun h1 s hs=>by
      simp only[pX,Bool.or_eq_false_iff]at hs
      exact h1 s hs.1
    split at h
    · refine wp_seq (wp_mono (SE _ _ fr H h a w ha hw) ?_)
      rintro e a' w' ⟨fr',H',dy,cR,ho,hq⟩
      cases e with
      |normal=>exact wp_mono (SD _ _ fr' H' hq a' w' dy cR) fun e2 a2 w2 ⟨pM,H2,g1,g2,g3,g4⟩=>⟨pM,H2,g1,g2,fun hp=>P4 (ho rfl) (g3 hp),g4⟩
      |exit id=>exact⟨fr',H',dy,cR,fun hp=>sJ (ho hp),hq⟩
      |goto l=>exact⟨fr',H',dy,cR,fun hp=>sJ (ho hp),hq⟩
      |ret=>exact⟨fr',H',dy,cR,fun hp=>sJ (ho hp),hq⟩
      |panic ch=>exact⟨fr',H',dy,cR,fun hp=>sJ (ho hp),hq⟩
      |outgrown=>exact⟨fr',H',dy,cR,fun hp=>sJ (ho hp),hq⟩
    · cases hno:KN x hn.I<;>simp only[hno,cond_true,cond_false]at h
      have h':=h (fun vs H'=>∀gs,den P g n y hn.b Q (mix hn.L vs hn.I fr gs) H') (sB.intro (fun vs H' hh=>hh) _)
      refine wp_seq (wp_mono (SE _ _ fr H h' a w ha hw) ?_)
      rintro e a' w' ⟨fr',H',dy,cR,ho,hq⟩
      cases e with
      |normal=>
        obtain⟨Hj,rA,hq⟩:=hq
        have SK:den P g n y hn.b Q fr' Hj:=by
          have:=hq fr'
          rwa [qT fun s hs=>ho rfl s (qQ hno s hs)]at this
        exact wp_mono (SD _ _ fr' Hj SK a' w' dy (rA _ _ cR)) fun e2 a2 w2 ⟨pM,H2,g1,g2,g3,g4⟩=>⟨pM,H2,g1,g2,fun hp=>P4 (ho rfl) (g3 hp),g4⟩
      |exit id=>exact⟨fr',H',dy,cR,fun hp=>sJ (ho hp),hq⟩
      |goto l=>exact⟨fr',H',dy,cR,fun hp=>sJ (ho hp),hq⟩
      |ret=>exact⟨fr',H',dy,cR,fun hp=>sJ (ho hp),hq⟩
      |panic ch=>exact⟨fr',H',dy,cR,fun hp=>sJ (ho hp),hq⟩
      |outgrown=>exact⟨fr',H',dy,cR,fun hp=>sJ (ho hp),hq⟩
  |cond c x y SE SD=>
    intro hn Q fr H h a w ha hw
    obtain⟨b,hb,ht,hf⟩:=h
    refine wp_cond_split (t:=b) (by rw[ha.eval];exact hb) (fun e=>?_) (fun e=>?_)
    · exact wp_mono (SE _ _ fr H (ht e) a w ha hw) fun e2 a2 w2 ⟨pM,H2,g1,g2,g3,g4⟩=>⟨pM,H2,g1,g2,fun hp s hs=>g3 hp s (by simp only[pX,Bool.or_eq_false_iff]at hs;exact hs.1),g4⟩
    · exact wp_mono (SD _ _ fr H (hf e) a w ha hw) fun e2 a2 w2 ⟨pM,H2,g1,g2,g3,g4⟩=>⟨pM,H2,g1,g2,fun hp s hs=>g3 hp s (by simp only[pX,Bool.or_eq_false_iff]at hs;exact hs.2),g4⟩
  |block id c ih=>
    intro hn Q fr H h a w ha hw
    refine wp_block (wp_mono (ih _ _ fr H h a w ha hw) ?_)
    rintro e a' w' ⟨fr',H',dy,cR,ho,hq⟩
    cases e with
    |exit id'=>
      simp only[Jj]at hq
      cases hb:Nat.beq id' id<;>simp only[hb,cond_true,cond_false]at hq
      · have:id'≠id:=fun e=>by subst e;simp at hb
        simp only[Exit.inBlock,this,if_false]
        exact⟨fr',H',dy,cR,ho,hq⟩
      · have:=Nat.eq_of_beq_eq_true hb
        simp only[Exit.inBlock,this,if_true]
        exact⟨fr',H',dy,cR,ho,hq⟩
    |normal=>exact⟨fr',H',dy,cR,ho,hq⟩
    |goto l=>exact⟨fr',H',dy,cR,ho,hq⟩
    |ret=>exact⟨fr',H',dy,cR,ho,hq⟩
    |panic ch=>exact⟨fr',H',dy,cR,ho,hq⟩
    |outgrown=>exact⟨fr',H',dy,cR,ho,hq⟩
  |loop c ih=>
    intro hn Q fr H h a w ha hw
    unfold den at h
    cases hno:KN c hn.I<;>simp only[hno,cond_true,cond_false]at h
    obtain⟨I,m,⟨H0,Rf,h0⟩,hr⟩:=h
    refine vH (fun a w k=>∃fr' H',ca ds n a fr'∧Own g H' w∧(∀s,pX c s=false→fr' s=fr s)∧I (yz fr' hn.L) H'∧m (yz fr' hn.L) H'=k) ⟨_,fr,H0,ha,Rf _ _ hw,fun _ _=>rfl,h0,rfl⟩ ?_
    rintro a w k ⟨LS,H1,C8,gS,ym,hI,rfl⟩
    have hb:=hr.elim (yz LS hn.L) (zx _ _) H1 hI LS
    rw[qT fun s hs=>ym s (qQ hno s hs)]at hb
    refine wp_mono (ih _ _ LS H1 hb a w C8 gS) ?_
    rintro e a' w' ⟨fr',H',dy,cR,ho,hq⟩
    have bE:q7 e=false→∀s,pX c s=false→fr' s=fr s:=fun hp s hs=>(ho hp s hs).trans (ym s hs)
    cases e with
    |normal=>obtain⟨Hj,rA,Ib,QE⟩:=hq;exact⟨_,QE,fr',Hj,dy,rA _ _ cR,bE rfl,Ib,rfl⟩
    |exit id=>exact⟨fr',H',dy,cR,bE,hq⟩
    |goto l=>exact⟨fr',H',dy,cR,bE,hq⟩
    |ret=>exact⟨fr',H',dy,cR,bE,hq⟩
    |panic ch=>exact⟨fr',H',dy,cR,bE,hq⟩
    |outgrown=>exact⟨fr',H',dy,cR,bE,hq⟩
  |region id ops draw=>
    intro hn Q fr H h a w ha hw
    unfold den at h
    cases draw<;>simp only[cond_true,cond_false]at h
    case false=>
      refine wp_region_list ?_
      have:=cq _ _ _ _ _ fr H _ _ h trivial (fX.nil fr) a w ha hw [] (fun e a' w'=>∃fr' H',ca ds n a' fr'∧Own g H' w'∧(q7 e=false→∀s,pX (.region id ops false) s=false→fr' s=fr s)∧Q e fr' H') ?_ ?_
      · simpa using this
      · intro a' w' nh fr' H' h1 h2 h3 _ h4
        exact⟨fr',H',h1,h2,fun _=>h3,h4⟩
      · intro ch a' w' fr' H' h1 h2 h3
        exact⟨fr',H',h1,h2,fun hp=>by simp[q7]at hp,h3 fr'⟩
    case true=>
      split at h
      · split at h
        · cases hc:(P.follows .mixedOrders&&Region.lexB .any ops)<;>simp only[hc,cond_true,cond_false]at h
          simp only[Bool.and_eq_true]at hc
          refine wp_region_quiet (C:=Own g H) hc.1 hc.2 hw.tY ?_
          have:=cX _ none _ ops.toList fr H _ _ h trivial (fX.nil fr) a ha [] (fun a'=>∀w',Own g H w'→∃fr' H',ca ds n a' fr'∧Own g H' w'∧(q7 .normal=false→∀s,pX (.region id ops true) s=false→fr' s=fr s)∧Q .normal fr' H') ?_
          · simpa using this
          · intro a' nh fr' h1 h3 _ h4
            exact fun w' cR=>⟨fr',H,h1,cR,fun _=>h3,h4⟩
        · cases hc:(P.follows .mixedOrders&&Region.noSelect ops&&Nat.ble hn.L.length ops.size)<;>simp only[hc,cond_true,cond_false]at h
          simp only[Bool.and_eq_true]at hc
          obtain⟨R,hR,h⟩:=h
          refine wp_mono (Q:=oo fun e a' w'=>∃fr' H',ca ds n a' fr'∧Own g H' w'∧(q7 e=false→∀s,pX (.region id ops true) s=false→fr' s=fr s)∧Q e fr' H') ?_ ?_
          · refine wp_region_any hc.1.1 (cO.any (S:=mE P g R ops) ?_)
            exact oa hc.1.2 fr (fun a w fr' H' h1 h2 h3 h4=>⟨fr',H',h1,h2,fun _=>h3,h4⟩) _ _ fr H h _ (Nat.le_of_ble_eq_true hc.2) (dZ.none _ rfl) _ _ ha hw.tY (fun _=>(hR _ _ hw).tY) (dD.refl _ _)
          · intro e a w h
            cases e<;>first|exact h|exact h.elim
      · cases hc:fT n ops.toList<;>simp only[hc,cond_true,cond_false]at h
        refine wp_mono (h a w (by rw[ha.size];exact hc) (by rw[LR];exact List.map_congr_left fun s _=>ha.get s) hw) ?_
        rintro e a' w' ⟨rfl,hd,hs,ho,H',cR,hk⟩
        refine⟨u6 ops.toList (fun s=>a'.tmps.getD s undef) fr,H',⟨hd.trans ha.defers,hs.trans ha.size,fun s=>?_⟩,cR,fun _ s hs=>?_,hk _⟩
        · unfold u6
          cases hb:bA ops.toList s
          · rw[cond_false,ho s hb,ha.get]
          · rfl
        · unfold u6;simp only[pX]at hs;rw[hs,cond_false]
      · cases hc:(P.follows .mixedOrders&&Region.noSelect ops)<;>simp only[hc,cond_true,cond_false]at h
        simp only[Bool.and_eq_true]at hc
        obtain⟨R,hR,h⟩:=h
        refine wp_mono (Q:=oo fun e a' w'=>∃fr' H',ca ds n a' fr'∧Own g H' w'∧(q7 e=false→∀s,pX (.region id ops true) s=false→fr' s=fr s)∧Q e fr' H') ?_ ?_
        · refine wp_region_any hc.1 (cO.any (S:=mE P g R ops) ?_)
          refine dV hc.2 fr (fun a w fr' H' h1 h2 h3 h4=>⟨fr',H',h1,h2,fun _=>h3,h4⟩) _ _ [] _ fr H h [] _ fr (by rw[Array.toList_replicate,sU];exact Nat.le_refl _) ⟨by simp,by simp,by simp,fun _ _=>rfl,by simp,fun j x hx=>by simp[er]at hx⟩ (dZ.none _ rfl) _ _ ha hw.tY (fun _=>(hR _ _ hw).tY) (dD.refl _ _)
        · intro e a w h
          cases e<;>first|exact h|exact h.elim
  |label l=>intro hn Q fr H h;exact h.elim
  |goto l=>intro hn Q fr H h;exact h.elim
  |scope c _=>intro hn Q fr H h;exact h.elim
  |refuse s=>intro hn Q fr H h;exact h.elim
  |rangeFunc f ps as b _ _=>intro hn Q fr H h;exact h.elim
def O1(R:Ending→Hp→Prop):List PanicEntry→Hp→Prop:=fun ch H=>∀_:Fr,R (.panicked ch) H
def JA:List PanicEntry→Hp→Prop:=fun _ _=>False
def qG:Code→Nat→Option (Array Oper)
  | .region id ops _,k=>cond (Nat.beq id k) (some ops) none
  | .seq a b,k=>match qG a k with|some x=>some x|none=>qG b k
  | .cond _ a b,k=>match qG a k with|some x=>some x|none=>qG b k
  | .block _ c,k=>qG c k
  | .loop c,k=>qG c k
  |_,_=>none
def fw(f:Func)(r i:Nat):Oper:=match f.body with|some c=>(match qG c r with|some ops=>(match ops[i]? with|some o=>o|none=>default)|none=>default)|none=>default
def gR:List Value→Nat→Fr
  | [],_=>fun _=>undef
  |v::r,i=>fun s=>cond (Nat.beq s i) v (gR r (i+1) s)
def qF(P:Program)(fr:Fr)(H:Hp):List ResultVar→(List Value→Prop)→Prop
  | [],k=>k []
  | .tmp t::r,k=>qF P fr H r fun vs=>k (fr t::vs)
  | .cell a t::r,k=>match P.underlying t,cT P t with
    |some d,some n=>cond (cr d) (av n H (fr a) fun v=>qF P fr H r fun vs=>k (v::vs)) (Ld H (fr a) fun v=>qF P fr H r fun vs=>k (v::vs))
    |_,_=>False
def yH:List Value→Value
  | [v]=>v
  |vs=>.tuple vs.toArray
def Vu(P:Program)(fn:Func)(R:Ending→Hp→Prop):Exit→Fr→Hp→Prop
  | .normal,fr,H=>qF P fr H fn.results.toList fun vs=>R (.returned (yH vs)) H
  | .ret,fr,H=>qF P fr H fn.results.toList fun vs=>R (.returned (yH vs)) H
  | .panic ch,_,H=>R (.panicked ch) H
  |_,_,_=>False
def zE(P:Program)(g:Gh)(fn:Func)(hn:Hn)(args:List Value)(H:Hp)(R:Ending→Hp→Prop):Prop:=
  match fn.body with
  |some c=>cond (Nat.ble args.length fn.ntmps) (den P g fn.ntmps c hn (Vu P fn R) (gR args 0) H) False
  |none=>False
theorem jC:∀(l:List Value) (i s:Nat),gR l i s=if s<i then undef else l.getD (s-i) undef
  | [],i,s=>by simp[gR]
  |v::r,i,s=>by
    simp only[gR,jC r (i+1) s]
    cases hb:Nat.beq s i
    · have hne:s≠i:=fun e=>by subst e;simp at hb
      simp only[cond_false]
      by_cases h:s<i
      · rw[if_pos (by omega),if_pos h]
      · rw[if_neg (by omega),if_neg h,show s-i=(s-(i+1))+1 by omega]
        simp[List.getD]
    · have:=Nat.eq_of_beq_eq_true hb;subst this
      simp[List.getD]
def D6(fr:Fr):ResultVar→Sem Value
  | .tmp t=>pure (fr t)
  | .cell b t=>do loadVar t (←asAddr (fr b))
theorem pE{fr:Fr}{H:Hp}{w:World}(hw:Own g H w){b:Tmp}{t:TypeId}{v:Value}{p:Addr}(hp:fr b=.pointer (some p))(h:(Instr.loadAt t (fr b)).run P w=.ok v w):(D6 fr (.cell b t)).run P w=.ok v w:=by
  rw[hp]at h
  simp only[D6,hp,asAddr]
  simpa[Instr.loadAt,Instr.sureAddr]using h
theorem nH{fr:Fr}{H:Hp}{w:World}(hw:Own g H w):∀(l:List ResultVar) (k:List Value→Prop),qF P fr H l k→
    ∃vs,(l.mapM (D6 fr)).run P w=.ok vs w∧k vs
  | [],k,h=>⟨[],by simp,h⟩
  | .tmp t::r,k,h=>by
    obtain⟨vs,hr,hk⟩:=nH hw r _ h
    refine⟨fr t::vs,?_,hk⟩
    simp only[List.mapM_cons,Sem.run_bind,Sem.run_pure,Result.andThen_ok,hr,D6]
  | .cell b t::r,k,h=>by
    unfold qF at h
    split at h<;>try exact h.elim
    rename_i d m hd hm
    obtain⟨i,hi,Ps⟩:=bF hm
    cases UQ:cr d<;>simp only[UQ,cond_true,cond_false]at h
    · obtain⟨v,hk',hf⟩:=h.fix
      obtain⟨v2,iZ,e⟩:=hf.run (P:=P) hw hd UQ
      subst e
      obtain⟨bb,off,c,T,fz,u,hp,_⟩:=hf
      obtain⟨vs,hr,hk⟩:=nH hw r _ hk'
      refine⟨v2::vs,?_,hk⟩
      have:=pE hw hp iZ
      simp only[List.mapM_cons,Sem.run_bind,Result.andThen_ok,hr,Sem.run_pure,this]
    · obtain⟨v,hk',hf⟩:=h.fix
      obtain⟨v2,iZ,e⟩:=hf.run (P:=P) hw hd UQ hi Ps
      subst e
      obtain⟨bb,off,c,T,fz,hp,_⟩:=hf
      obtain⟨vs,hr,hk⟩:=nH hw r _ hk'
      refine⟨v2::vs,?_,hk⟩
      have:=pE hw hp iZ
      simp only[List.mapM_cons,Sem.run_bind,Result.andThen_ok,hr,Sem.run_pure,this]
theorem fM{fn:Func}{fr:Fr}{H:Hp}{n:Nat}{a:Act}{w:World}(ha:ca ds n a fr)(hw:Own g H w){k:List Value→Prop}(h:qF P fr H fn.results.toList k):
    ∃vs,(results fn a.tmps).run P w=.ok (yH vs) w∧k vs:=by
  obtain⟨vs,hr,hk⟩:=nH (P:=P) hw _ _ h
  refine⟨vs,?_,hk⟩
  have e:results fn a.tmps=(do let vs ←fn.results.mapM (D6 fr);pure (if h:vs.size=1 then vs[0]else .tuple vs)):=by
    unfold results
    congr 1
    congr 1
    funext x
    cases x<;>simp only[D6,ha.get]
  rw[e,Array.mapM_eq_mapM_toList]
  simp only[Sem.run_bind,Sem.run_map,hr,Result.andThen_ok,Sem.run_pure]
  congr 1
  match vs with
  | []=>rfl
  | [v]=>rfl
  |a::b::r=>simp[yH]
theorem zD{f:FuncId}{fn:Func}{hn:Hn}{args:List Value}{H:Hp}{R:Ending→Hp→Prop}(hf:P.funcs[f]? =some fn)(h:zE P g fn hn args H R):bZ P g f args.toArray H R:=by
  intro w hw
  unfold zE at h
  split at h<;>try exact h.elim
  rename_i c hc
  cases hl:Nat.ble args.length fn.ntmps<;>simp only[hl,cond_true,cond_false]at h
  have hle:=Nat.le_of_ble_eq_true hl
  refine calls_of_wp hf hc (wp_mono (je c hn _ _ H h _ w ⟨rfl,?_,?_⟩ hw) ?_)
  · simp;omega
  · intro s
    rw[jC,Array.getD_eq_getD_getElem?,Array.getElem?_append]
    simp only[List.size_toArray,Nat.not_lt_zero,if_false,Nat.sub_zero]
    by_cases hs:s<args.length
    · simp[hs,List.getD]
    · rw[if_neg hs]
      rw[Array.getElem?_replicate]
      have:args.getD s undef=undef:=by simp[List.getD,List.getElem?_eq_none (Nat.le_of_not_lt hs)]
      rw[this]
      split<;>rfl
  · rintro e a' w' ⟨fr',H',dy,cR,_,hq⟩
    cases e with
    |normal=>obtain⟨vs,hr,hk⟩:=fM dy cR hq;exact⟨dy.defers,_,hr,H',cR,hk⟩
    |ret=>obtain⟨vs,hr,hk⟩:=fM dy cR hq;exact⟨dy.defers,_,hr,H',cR,hk⟩
    |panic ch=>exact⟨dy.defers,H',cR,hq⟩
    |exit id=>exact hq.elim
    |goto l=>exact hq.elim
    |outgrown=>exact hq.elim
end
end Go.Sx
namespace Go.Sx
open Go
section
variable {P:Program} {g:Gh} {H:Hp}
theorem Nil.ptr{a:Addr}{k:Value→Prop}(h:k (.pointer (some a))):Nil (.pointer (some a)) k:=⟨_,rfl,h⟩
theorem ag.mk{b o off:Nat}{k:Value→Prop}(h:k (.pointer (some ⟨b,o+off,none⟩))):ag off (.pointer (some ⟨b,o,none⟩)) k:=⟨b,o,rfl,h⟩
theorem Ld.mk{b off:Nat}{c:Array Value}{T:TypeId}{fz:Nat×Nat}{v:Value}{k:Value→Prop}(hm:(b,Obj.cells c T fz)∈H)(hc:c[off]? =some v)(h:k v):Ld H (.pointer (some ⟨b,off,none⟩)) k:=
 ⟨b,off,c,T,fz,v,rfl,hm,hc,h⟩
theorem av.mk{b off n:Nat}{c:Array Value}{T:TypeId}{fz:Nat×Nat}{vs:Array Value}{k:Value→Prop}(hm:(b,Obj.cells c T fz)∈H)(hs:off+n≤c.size)(hc:c.extract off (off+n)=vs)(h:k (.agg vs)):av n H (.pointer (some ⟨b,off,none⟩)) k:=
 ⟨b,off,c,T,fz,rfl,hm,hs,by rw[hc];exact h⟩
theorem St.mk{b off n:Nat}{c:Array Value}{T:TypeId}{x:Value}{c':Array Value}{H':Hp}{k:Hp→Prop}(hu:cA b (.cells c T (0,0)) (.cells c' T (0,0)) H H')(hx:x.cells.size=n)(hs:off+n≤c.size)
 (h1:∀v∈x.cells.toList,v.oneCell'=true)(hc:gO c off x.cells.toList=c')(h:k H'):St n H (.pointer (some ⟨b,off,none⟩)) x k:=
 ⟨b,off,c,T,H',rfl,hx,hs,h1,by rw[hc];exact hu,h⟩
theorem JE.mk{J:List Value→Hp→Prop}{vs:List Value}(h:J vs H):JE J vs H:=⟨H,.refl _,h⟩
theorem JE.of{J:List Value→Hp→Prop}{vs:List Value}{H':Hp}(e:aJ H H')(h:J vs H'):JE J vs H:=⟨H',e,h⟩
theorem aq.mk{I:List Value→Hp→Prop}{m:List Value→Hp→Nat}{vs' vs:List Value}{H0:Hp}(h:I vs' H)(hm:m vs' H<m vs H0):aq I m vs' H vs H0:=⟨H,.refl _,h,hm⟩
theorem aq.of{I:List Value→Hp→Prop}{m:List Value→Hp→Nat}{vs' vs:List Value}{H' H0:Hp}(e:aJ H H')(h:I vs' H')(hm:m vs' H'<m vs H0):aq I m vs' H vs H0:=⟨H',e,h,hm⟩
theorem Br.mk{b:Bool}{t f:Prop}(h1:b=true→t)(h2:b=false→f):Br (.bool b) t f:=⟨b,rfl,h1,h2⟩
theorem Br.yes{t f:Prop}(h1:t):Br (.bool true) t f:=⟨true,rfl,fun _=>h1,fun h=>by simp at h⟩
theorem Br.no{t f:Prop}(h1:f):Br (.bool false) t f:=⟨false,rfl,fun h=>by simp at h,fun _=>h1⟩
theorem Br.Tm{b:Bool}{t f:Prop}(hb:b=true)(h1:t):Br (.bool b) t f:=by subst hb;exact Br.yes h1
theorem Br.Pc{b:Bool}{t f:Prop}(hb:b=false)(h1:f):Br (.bool b) t f:=by subst hb;exact Br.no h1
theorem dO.mk{a:Bool}{want:Bool}{inner els k:Bool→Prop}(t:Bool)(h1:a=want→inner t)(h2:a= !want→els t)(h3:k t):dO (.bool a) want inner els k:=⟨a,t,rfl,h1,h2,h3⟩
theorem dO.and{a:Bool}{inner els k:Bool→Prop}(b:Bool)(h1:a=true→inner b)(h2:els false)(h3:k (a&&b)):dO (.bool a) true inner els k:=
 ⟨a,a&&b,rfl,fun e=>by subst e;exact h1 rfl,fun e=>by subst e;exact h2,h3⟩
theorem dO.or{a:Bool}{inner els k:Bool→Prop}(b:Bool)(h1:a=false→inner b)(h2:els true)(h3:k (a||b)):dO (.bool a) false inner els k:=
 ⟨a,a||b,rfl,fun e=>by subst e;exact h1 rfl,fun e=>by subst e;exact h2,h3⟩
theorem Split.go{a:Bool}{want:Bool}{k1 k2:Prop}(e:a=want)(h1:k1):Split (.bool a) want k1 k2:=⟨a,rfl,fun _=>h1,fun e'=>by subst e;cases a<;>simp at e'⟩
theorem Split.KJ{a:Bool}{want:Bool}{k1 k2:Prop}(e:a= !want)(h1:k2):Split (.bool a) want k1 k2:=⟨a,rfl,fun e'=>by subst e';cases a<;>simp at e,fun _=>h1⟩
theorem ay.mk{t:Bool}{a b:Value}{k:Value→Prop}(h:k (cond t a b)):ay (.bool t) a b k:=⟨t,rfl,h⟩
theorem Un.not{b:Bool}{k:Value→Prop}(h:k (.bool !b)):Un .not (.bool b) k:=⟨_,rfl,h⟩
theorem Ext.mk{i:Nat}{vs:Array Value}{v:Value}{k:Value→Prop}(hv:vs[i]? =some v)(h:k v):Ext i (.tuple vs) k:=⟨vs,v,rfl,hv,h⟩
theorem aA.mk{a:Option Addr}{n c:Nat}{k:Value→Prop}(h:k (.int .i64 n)):aA (.slice a n c) k:=⟨a,n,c,rfl,h⟩
theorem bf.of{kd j:IntKind}{n m:Int}{k:Value→Prop}(e:kd.wrap n=m)(h:k (.int kd m)):bf kd (.int j n) k:=⟨j,n,rfl,by rw[e];exact h⟩
theorem yA.mk{off:Nat}{cs:Array Value}{v:Value}{k:Value→Prop}(hc:cs[off]? =some v)(h:k v):yA off (.agg cs) k:=⟨cs,v,rfl,hc,h⟩
theorem aj.mk{size b o n c:Nat}{kd:IntKind}{i:Int}{k:Value→Prop}(h0:0≤i)(h1:i<(n:Int))(h:k (.pointer (some ⟨b,o+i.toNat*size,none⟩))):aj size (.slice (some ⟨b,o,none⟩) n c) (.int kd i) k:=
 ⟨b,o,n,c,kd,i,rfl,rfl,h0,h1,h⟩
theorem aj.nat{size b o n c:Nat}{kd:IntKind}{j:Nat}{k:Value→Prop}(h1:j<n)(h:k (.pointer (some ⟨b,o+j*size,none⟩))):aj size (.slice (some ⟨b,o,none⟩) n c) (.int kd (j:Int)) k:=
 aj.mk (Int.natCast_nonneg j) (by omega) (by simpa using h)
theorem aj.of{size b o n c:Nat}{kd:IntKind}{i:Int}{k:Value→Prop}(j:Nat)(e:i=(j:Int))(h1:j<n)(h:k (.pointer (some ⟨b,o+j*size,none⟩))):aj size (.slice (some ⟨b,o,none⟩) n c) (.int kd i) k:=by
 subst e;exact aj.nat h1 h
theorem aa.eql{kd:IntKind}{a b:Int}{k:Value→Prop}(h:k (.bool (a==b))):aa .num .eql (.int kd a) (.int kd b) k:=⟨_,by simp[eS,iE],h⟩
theorem aa.neq{kd:IntKind}{a b:Int}{k:Value→Prop}(h:k (.bool (a !=b))):aa .num .neq (.int kd a) (.int kd b) k:=⟨_,by simp[eS,iE],h⟩
theorem aa.lss{kd:IntKind}{a b:Int}{k:Value→Prop}(h:k (.bool (decide (a<b)))):aa .num .lss (.int kd a) (.int kd b) k:=⟨_,by simp[eS,iE],h⟩
theorem aa.leq{kd:IntKind}{a b:Int}{k:Value→Prop}(h:k (.bool (decide (a≤b)))):aa .num .leq (.int kd a) (.int kd b) k:=⟨_,by simp[eS,iE],h⟩
theorem aa.gtr{kd:IntKind}{a b:Int}{k:Value→Prop}(h:k (.bool (decide (b<a)))):aa .num .gtr (.int kd a) (.int kd b) k:=⟨_,by simp[eS,iE],h⟩
theorem aa.geq{kd:IntKind}{a b:Int}{k:Value→Prop}(h:k (.bool (decide (b≤a)))):aa .num .geq (.int kd a) (.int kd b) k:=⟨_,by simp[eS,iE],h⟩
theorem aa.add{kd:IntKind}{a b:Int}{k:Value→Prop}(h:k (.int kd (kd.wrap (a+b)))):aa .num .add (.int kd a) (.int kd b) k:=⟨_,by simp[eS,iE],h⟩
theorem aa.sub{kd:IntKind}{a b:Int}{k:Value→Prop}(h:k (.int kd (kd.wrap (a-b)))):aa .num .sub (.int kd a) (.int kd b) k:=⟨_,by simp[eS,iE],h⟩
theorem aa.mul{kd:IntKind}{a b:Int}{k:Value→Prop}(h:k (.int kd (kd.wrap (a*b)))):aa .num .mul (.int kd a) (.int kd b) k:=⟨_,by simp[eS,iE],h⟩
theorem wrap_i64{a:Int}(h: -9223372036854775808≤a∧a≤9223372036854775807):IntKind.i64.wrap a=a:=IntWalk.i64_in _ h
theorem aa.Dq{a b:Int}{c:Int}{k:Value→Prop}(e:a+b=c)(hb: -9223372036854775808≤c∧c≤9223372036854775807)(h:k (.int .i64 c)):aa .num .add (.int .i64 a) (.int .i64 b) k:=
 aa.add (by rw[e,wrap_i64 hb];exact h)
theorem aa.gK{a b:Int}{c:Int}{k:Value→Prop}(e:a-b=c)(hb: -9223372036854775808≤c∧c≤9223372036854775807)(h:k (.int .i64 c)):aa .num .sub (.int .i64 a) (.int .i64 b) k:=
 aa.sub (by rw[e,wrap_i64 hb];exact h)
theorem aa.P9{a b:Int}{c:Int}{k:Value→Prop}(e:a*b=c)(hb: -9223372036854775808≤c∧c≤9223372036854775807)(h:k (.int .i64 c)):aa .num .mul (.int .i64 a) (.int .i64 b) k:=
 aa.mul (by rw[e,wrap_i64 hb];exact h)
theorem aa.G3{a b:Int}{c:Int}{k:Value→Prop}(hb0:b≠0)(e:a.tdiv b=c)(hb: -9223372036854775808≤c∧c≤9223372036854775807)(h:k (.int .i64 c)):aa .num .quo (.int .i64 a) (.int .i64 b) k:=
 ⟨.int .i64 c,by simp[eS,iE,hb0,e,wrap_i64 hb],h⟩
theorem aa.Mo{kd:IntKind}{a b:Int}{c:Int}{k:Value→Prop}(hb0:b≠0)(e:a.tmod b=c)(h:k (.int kd c)):aa .num .rem (.int kd a) (.int kd b) k:=
 ⟨.int kd c,by simp[eS,iE,hb0,e],h⟩
theorem aa.aC{a:Addr}{k:Value→Prop}(h:k (.bool false)):aa .ptr .eql (.pointer (some a)) (.pointer none) k:=⟨.bool false,by simp[eS],h⟩
theorem aa.aQ{k:Value→Prop}(h:k (.bool true)):aa .ptr .eql (.pointer none) (.pointer none) k:=⟨.bool true,by simp[eS],h⟩
theorem aa.aR{a:Option Nat}{k:Value→Prop}(h:k (.bool a.isNone)):aa .map .eql (.map a) (.map none) k:=⟨.bool a.isNone,by simp[eS],h⟩
theorem aa.KO{a b:Bool}{k:Value→Prop}(h:k (.bool (!(a==b)))):aa .bool .neq (.bool a) (.bool b) k:=⟨_,by simp[eS],h⟩
theorem aJ.Mm(A B C:Hp):aJ (A++(B++C)) (B++(A++C)):=.perm (by rw[←List.append_assoc,←List.append_assoc];exact List.perm_append_comm.append_right C)
def flat:List Hp→Hp
 | []=>[]
 | [a]=>a
 |a::b::r=>a++flat (b::r)
theorem oV:∀(l:List Hp),(flat l).Perm l.flatten
 | []=>.refl _
 | [a]=>by simp[flat]
 |a::b::r=>by
  simp only[flat,List.flatten_cons]
  exact List.Perm.append_left _ (by simpa using oV (b::r))
theorem aJ.P1(S T:List Hp)(h:S.Perm T):aJ (flat S) (flat T):=
 .perm ((oV S).trans (h.flatten.trans (oV T).symm))
def rows(l:List (List Value)):Array Value:=l.flatten.toArray
theorem pN{k:Nat}:∀(l:List (List Value)) (i j:Nat),(∀r∈l,r.length=k)→j<k→l.flatten[i*k+j]? =(l[i]?).bind (·[j]?)
 | [],i,j,_,_=>by simp
 |r::l,0,j,h,hj=>by
  have:=h r (by simp)
  simp[List.getElem?_append,this,hj]
 |r::l,i+1,j,h,hj=>by
  have hr:=h r (by simp)
  have ih:=pN l i j (fun x hx=>h x (by simp[hx])) hj
  rw[List.flatten_cons,List.getElem?_append_right (by rw[hr,Nat.succ_mul];omega),hr,show(i+1)*k+j-k=i*k+j by rw[Nat.succ_mul];omega,ih]
  simp
theorem cL{k:Nat}:∀(l:List (List Value)),(∀r∈l,r.length=k)→l.flatten.length=l.length*k
 | [],_=>by simp
 |r::l,h=>by
  have hr:=h r (by simp)
  rw[List.flatten_cons,List.length_append,hr,cL l (fun x hx=>h x (by simp[hx]))]
  simp[Nat.succ_mul];omega
theorem bD{k:Nat}{l:List (List Value)}(h:∀r∈l,r.length=k):(rows l).size=l.length*k:=by simp[rows,cL l h]
theorem fL{k:Nat}{l:List (List Value)}(h:∀r∈l,r.length=k){i j:Nat}(hj:j<k):(rows l)[i*k+j]? =(l[i]?).bind (·[j]?):=by
 simp only[rows,List.getElem?_toArray];exact pN l i j h hj
theorem uE{k:Nat}{l:List (List Value)}(h:∀r∈l,r.length=k){i:Nat}{r:List Value}(hi:l[i]? =some r):(rows l).extract (i*k) (i*k+k)=r.toArray:=by
 have hr:=h r (List.mem_of_getElem? hi)
 have hlt:=(List.getElem?_eq_some_iff.1 hi).1
 apply Array.ext'
 apply List.ext_getElem?
 intro j
 by_cases hj:j<k
 ·have:=fL h (i:=i) hj
  rw[Array.getElem?_toList,Array.getElem?_extract]
  rw[if_pos (by rw[bD h];have:=Nat.mul_le_mul_right k (Nat.succ_le_of_lt hlt);rw[Nat.succ_mul]at this;omega),this,hi]
  simp
 ·rw[List.getElem?_eq_none (by simp;omega),List.getElem?_eq_none (by simp;omega)]
theorem nL:∀(vs:List Value) (c:List Value) (off:Nat),off+vs.length≤c.length→gO c.toArray off vs=(c.take off++vs++c.drop (off+vs.length)).toArray
 | [],c,off,_=>by simp[gO]
 |v::r,c,off,h=>by
  simp only[List.length_cons]at h
  have hl:off<c.length:=by omega
  have:c.toArray.setIfInBounds off v=(c.set off v).toArray:=by simp
  rw[gO,this,nL r (c.set off v) (off+1) (by simp only[List.length_set];omega)]
  congr 1
  have e1:(c.set off v).take (off+1)=c.take off++[v]:=by
   rw[List.set_eq_take_append_cons_drop,if_pos hl,List.take_append]
   simp[List.take_take,hl,Nat.min_eq_left (Nat.le_of_lt hl)]
  have e2:(c.set off v).drop (off+1+r.length)=c.drop (off+(v::r).length):=by
   rw[List.drop_set_of_lt (by omega)]
   simp only[List.length_cons]
   rw[show off+1+r.length=off+(r.length+1)by omega]
  rw[e1,e2];simp
theorem vW{k:Nat}{l:List (List Value)}(h:∀r∈l,r.length=k){i:Nat}(hi:i<l.length){r:List Value}(hr:r.length=k):gO (rows l) (i*k) r=rows (l.set i r):=by
 unfold rows
 have hlen:=cL l h
 have hle:i*k+k≤l.length*k:=by have:=Nat.mul_le_mul_right k (Nat.succ_le_of_lt hi);rwa [Nat.succ_mul]at this
 rw[nL r l.flatten (i*k) (by rw[hlen,hr];exact hle)]
 congr 1
 have e:l=l.take i++[l[i]]++l.drop (i+1):=by simp
 have hp:(l.take i).flatten.length=i*k:=by
  rw[cL _ (fun x hx=>h x (List.mem_of_mem_take hx))];simp[Nat.min_eq_left (Nat.le_of_lt hi)]
 have hm:l[i].length=k:=h _ (List.getElem_mem hi)
 have e3:l.flatten=(l.take i).flatten++(l[i]++(l.drop (i+1)).flatten):=by
  rw[←List.flatten_cons,←List.flatten_append,←List.drop_eq_getElem_cons hi,List.take_append_drop]
 have e4:(l.set i r).flatten=(l.take i).flatten++(r++(l.drop (i+1)).flatten):=by
  rw[List.set_eq_take_append_cons_drop,if_pos hi];simp[List.flatten_append]
 rw[e4,e3,←hp,List.take_left,←List.drop_drop,List.drop_left,hr,←hm,List.drop_left]
 simp
end
end Go.Sx
namespace Go.Sx
open Go
section
variable {P:Program} {g:Gh}
theorem cA.bP{b:Nat}{o o':Obj}{C C':Hp}(h:cA b o o' C C')(A:Hp):cA b o o' (A++C) (A++C'):=by
 induction A with
 |nil=>exact h
 |cons x A ih=>exact .tail ih
def aO(T:TypeId)(k:Nat)(v:Value)(rs:List (List Value))(C:Hp):Prop:=
 (v=.slice none 0 0∧rs=[]∧C=[])∨
 ∃b aD,v=.slice (some ⟨b,0,none⟩) rs.length (rs.length+aD.length)∧C=[(b,.cells (rows (rs++aD)) T (0,0))]∧(∀r∈rs++aD,r.length=k)
theorem aO.nil(T:TypeId)(k:Nat):aO T k (.slice none 0 0) [] []:=.inl ⟨rfl,rfl,rfl⟩
theorem aO.len{T:TypeId}{k:Nat}{v:Value}{rs:List (List Value)}{C:Hp}(h:aO T k v rs C):∃a c,v=.slice a rs.length c:=by
 rcases h with⟨rfl,rfl,rfl⟩|⟨b,aD,rfl,_⟩
 ·exact⟨_,_,rfl⟩
 ·exact⟨_,_,rfl⟩
theorem aO.aL{T:TypeId}{k:Nat}{v:Value}{rs:List (List Value)}{C:Hp}(h:aO T k v rs C){K:Value→Prop}(hk:K (.int .i64 rs.length)):aA v K:=by
 obtain⟨a,c,rfl⟩:=h.len;exact aA.mk hk
theorem nt{k:Nat}(z:List Value)(hz:z.length=k)(m:Nat):Builtin.zeroCells z.toArray m=rows (List.replicate m z):=by
 apply Array.ext'
 apply List.ext_getElem?
 intro j
 have aB:∀r∈List.replicate m z,r.length=k:=fun r hr=>by rw[List.eq_of_mem_replicate hr,hz]
 by_cases hj:j<m*k
 ·have hk:0<k:=Nat.pos_of_ne_zero fun e=>by simp[e]at hj
  have hd:j/k<m:=Nat.div_lt_of_lt_mul (by rw[Nat.mul_comm];exact hj)
  have hm:j%k<k:=Nat.mod_lt _ hk
  have he:j/k*k+j%k=j:=by rw[Nat.mul_comm];exact Nat.div_add_mod j k
  have:=fL aB (i:=j/k) hm
  rw[he]at this
  rw[Array.getElem?_toList,Array.getElem?_toList,this]
  simp only[Builtin.zeroCells,List.size_toArray,hz,List.getElem?_replicate,hd,if_true,Option.bind_some]
  rw[Array.getElem?_map,Array.getElem?_range]
  simp[hj,hz,hm]
 ·rw[List.getElem?_eq_none,List.getElem?_eq_none]
  ·simp only[Array.length_toList,bD aB,List.length_replicate];omega
  ·simp[Builtin.zeroCells,hz];omega
theorem dk(a b:List (List Value)):rows a++rows b=rows (a++b):=by simp[rows,List.flatten_append]
theorem aO.zW{elem k bytes:Nat}{zero:Value}{v:Value}{rs:List (List Value)}{C A B:Hp}(h:aO elem k v rs C){xb:Nat}{r:List Value}{xT:TypeId}{fz:Nat×Nat}{xc:Nat}
 (hx:(xb,Obj.cells r.toArray xT fz)∈A++(C++B))(hr:r.length=k)(h1:∀u∈r,u.oneCell'=true)(hz:∃z:List Value,zero.cells=z.toArray∧z.length=k)
 (hb:(rs.length+1)*bytes≤140737488355328)(aV:rs.length+1≤9223372036854775807){K:Value→Hp→Prop}
 (hk:∀v' C',aO elem k v' (rs++[r]) C'→K v' (A++(C'++B))):App P elem k bytes zero (A++(C++B)) v (.slice (some ⟨xb,0,none⟩) 1 xc) K:=by
 have C6:∀x∈[r],x.length=k:=fun x hx=>by simp at hx;rw[hx];exact hr
 obtain⟨z,Qo,Lf⟩:=hz
 have hnews:Cells (A++(C++B)) (some ⟨xb,0,none⟩) (1*k) (rows [r]):=.inr ⟨rfl,_,_,_,hx,by simp[hr],by simp[rows];rw[←hr,List.take_length]⟩
 have hnone:∀u∈(rows [r]).toList,u.oneCell'=true:=by simpa[rows]using h1
 rcases h with⟨rfl,rfl,rfl⟩|⟨b,aD,rfl,rfl,aB⟩
 ·refine⟨none,0,0,some ⟨xb,0,none⟩,1,xc,#[],rows [r],rfl,rfl,rfl,hnews,by rw[bD C6];simp,by simp,hnone,fun h=>by omega,fun _=>⟨hb,by omega,fun eP hn b UJ=>?_⟩⟩
  rw[show(#[]:Array Value)++rows [r]++Builtin.zeroCells zero.cells (eP-(0+1))=rows ([]++[r]++List.replicate (eP-1) z)by rw[Qo,nt z Lf];simp only[Nat.zero_add,Array.empty_append,List.nil_append];rw[dk]]
  refine⟨_,aJ.Mm [(b,_)] A B,hk _ [(b,_)] (.inr ⟨b,List.replicate (eP-1) z,?_,rfl,?_⟩)⟩
  ·simp;omega
  ·intro x hx
   rcases List.mem_append.1 hx with hx|hx
   ·exact C6 x hx
   ·rw[List.eq_of_mem_replicate hx,Lf]
 ·have hsz:=bD aB
  have mu:∀x∈rs,x.length=k:=fun x hx=>aB x (by simp[hx])
  have hold:rows rs=(rows (rs++aD)).extract 0 (0+rs.length*k):=by
   rw[←dk]
   apply Array.ext'
   have:=bD mu
   have h2:(rows rs).toList.length=rs.length*k:=by rw[Array.length_toList];exact this
   rw[Array.toList_extract,Array.toList_append,List.extract_eq_take_drop,List.drop_zero,Nat.zero_add,Nat.sub_zero,←h2,List.take_left]
  refine⟨some ⟨b,0,none⟩,rs.length,rs.length+aD.length,some ⟨xb,0,none⟩,1,xc,rows rs,rows [r],rfl,rfl,.inr ⟨rfl,_,elem,(0,0),by simp,?_,hold⟩,hnews,by rw[bD C6];simp,bD mu,hnone,fun hfit=>?_,fun hgrow=>⟨hb,by omega,fun eP hn b' UJ=>?_⟩⟩
  ·rw[hsz];simp only[List.length_append,Nat.zero_add];exact Nat.mul_le_mul_right _ (by omega)
  ·obtain⟨j0,CM,rfl⟩:∃j0 CM,aD=j0::CM:=by cases aD with|nil=>exact absurd hfit (by simp only[List.length_nil];omega)|cons a b=>exact⟨a,b,rfl⟩
   refine⟨_,elem,_,rfl,?_,((cA.head _).append B).bP A,hk _ [(b,_)] (.inr ⟨b,CM,?_,?_,?_⟩)⟩
   ·rw[hsz];simp[Nat.succ_mul,Nat.add_mul]
   ·simp;omega
   ·have e:(rows [r]).toList=r:=by simp[rows]
    rw[e,show(⟨b,0,none⟩:Addr).off+rs.length*k=rs.length*k by simp,vW aB (by simp) hr]
    simp
   ·intro x hx
    simp only[List.append_assoc,List.cons_append,List.nil_append,List.mem_append,List.mem_cons]at hx
    rcases hx with hx|hx|hx
    ·exact mu x hx
    ·rw[hx];exact hr
    ·exact aB x (by simp[hx])
  ·refine⟨A++([(b',_)]++B),?_,hk _ [(b',_)] (.inr ⟨b',List.replicate (eP-(rs.length+1)) z,?_,rfl,?_⟩)⟩
   ·rw[Qo,nt z Lf,dk,dk]
    exact fun g w h=>(aJ.P1 [[_],A,[_],B] [[_],A,[_],B] ((List.perm_append_comm (l₁:=[_,A]) (l₂:=[_])).append_right [B]|>.trans (.cons _ (.swap _ _ _))) g w h).tail
   ·simp;omega
   ·intro x hx
    rcases List.mem_append.1 hx with hx|hx
    ·rcases List.mem_append.1 hx with hx|hx
     ·exact mu x hx
     ·exact C6 x hx
    ·rw[List.eq_of_mem_replicate hx,Lf]
end
end Go.Sx
namespace Go.Sx
open Go
section
variable {P:Program} {g:Gh} {H:Hp}
theorem aO.pos{T:TypeId}{k:Nat}{v:Value}{rs:List (List Value)}{C:Hp}(h:aO T k v rs C)(hp:0<rs.length):
  ∃b aD,v=.slice (some ⟨b,0,none⟩) rs.length (rs.length+aD.length)∧C=[(b,.cells (rows (rs++aD)) T (0,0))]∧(∀r∈rs++aD,r.length=k):=by
 rcases h with⟨_,rfl,_⟩|h
 ·simp at hp
 ·exact h
theorem aO.mk{T:TypeId}{k b:Nat}{rs aD:List (List Value)}(aB:∀r∈rs++aD,r.length=k):aO T k (.slice (some ⟨b,0,none⟩) rs.length (rs.length+aD.length)) rs [(b,.cells (rows (rs++aD)) T (0,0))]:=
 .inr ⟨b,aD,rfl,rfl,aB⟩
theorem aO.mk'{T:TypeId}{k b n c:Nat}{rs aD:List (List Value)}(aB:∀r∈rs++aD,r.length=k)(hn:n=rs.length)(hc:c=rs.length+aD.length):aO T k (.slice (some ⟨b,0,none⟩) n c) rs [(b,.cells (rows (rs++aD)) T (0,0))]:=by
 subst hn;subst hc;exact aO.mk aB
theorem av.row{b i k:Nat}{l:List (List Value)}{T:TypeId}{fz:Nat×Nat}{r:List Value}{K:Value→Prop}(hm:(b,Obj.cells (rows l) T fz)∈H)(aB:∀r∈l,r.length=k)(hi:l[i]? =some r)(h:K (.agg r.toArray)):
  av k H (.pointer (some ⟨b,0+i*k,none⟩)) K:=by
 have hlt:=(List.getElem?_eq_some_iff.1 hi).1
 refine av.mk hm ?_ ?_ h
 ·rw[bD aB,Nat.zero_add];have:=Nat.mul_le_mul_right k (Nat.succ_le_of_lt hlt);rwa [Nat.succ_mul]at this
 ·rw[Nat.zero_add];exact uE aB hi
theorem Ld.row{b i j k:Nat}{l:List (List Value)}{T:TypeId}{fz:Nat×Nat}{r:List Value}{v:Value}{K:Value→Prop}(hm:(b,Obj.cells (rows l) T fz)∈H)(aB:∀r∈l,r.length=k)(hi:l[i]? =some r)(hv:r[j]? =some v)(h:K v):
  Ld H (.pointer (some ⟨b,0+i*k+j,none⟩)) K:=by
 have hr:=aB r (List.mem_of_getElem? hi)
 have hj:j<k:=by rw[←hr];exact(List.getElem?_eq_some_iff.1 hv).1
 refine Ld.mk hm ?_ h
 rw[Nat.zero_add,fL aB hj,hi];exact hv
theorem Ld.P3{b i:Nat}{l:List (List Value)}{T:TypeId}{fz:Nat×Nat}{v:Value}{K:Value→Prop}(hm:(b,Obj.cells (rows l) T fz)∈H)(aB:∀r∈l,r.length=1)(hi:l[i]? =some [v])(h:K v):
  Ld H (.pointer (some ⟨b,0+i*1,none⟩)) K:=by
 have:=Ld.row (j:=0) hm aB hi rfl h
 simpa using this
theorem St.row{b i k:Nat}{l:List (List Value)}{T:TypeId}{r:List Value}{H':Hp}{K:Hp→Prop}(hu:cA b (.cells (rows l) T (0,0)) (.cells (rows (l.set i r)) T (0,0)) H H')(aB:∀r∈l,r.length=k)(hi:i<l.length)
 (hr:r.length=k)(h1:∀v∈r,v.oneCell'=true)(h:K H'):St k H (.pointer (some ⟨b,0+i*k,none⟩)) (.agg r.toArray) K:=by
 refine St.mk hu (by simp[Value.cells,hr]) ?_ (by simpa[Value.cells]using h1) ?_ h
 ·rw[bD aB,Nat.zero_add];have:=Nat.mul_le_mul_right k (Nat.succ_le_of_lt hi);rwa [Nat.succ_mul]at this
 ·simp only[Value.cells,Nat.zero_add];exact vW aB hi hr
theorem mm{k:Nat}{l:List (List Value)}(h:∀r∈l,r.length=k){i j:Nat}{r:List Value}(hi:l[i]? =some r)(hj:j<k)(v:Value):(rows l).setIfInBounds (i*k+j) v=rows (l.set i (r.set j v)):=by
 have hr:=h r (List.mem_of_getElem? hi)
 have hlt:=(List.getElem?_eq_some_iff.1 hi).1
 have xk:∀x∈l.set i (r.set j v),x.length=k:=fun x hx=>by
  rcases List.mem_or_eq_of_mem_set hx with hx|hx
  ·exact h x hx
  ·rw[hx,List.length_set];exact hr
 have hk:0<k:=by omega
 apply Array.ext'
 apply List.ext_getElem?
 intro m
 rw[Array.getElem?_toList,Array.getElem?_toList,Array.getElem?_setIfInBounds]
 have hm:m%k<k:=Nat.mod_lt _ hk
 have he:m/k*k+m%k=m:=by rw[Nat.mul_comm];exact Nat.div_add_mod m k
 have g1:=fL h (i:=m/k) hm
 have g2:=fL xk (i:=m/k) hm
 rw[he]at g1 g2
 rw[g1,g2]
 by_cases e:i*k+j=m
 ·have e1:m/k=i:=by rw[←e,Nat.mul_comm,Nat.mul_add_div hk,Nat.div_eq_of_lt hj,Nat.add_zero]
  have e2:m%k=j:=by rw[←e,Nat.mul_comm,Nat.mul_add_mod,Nat.mod_eq_of_lt hj]
  rw[if_pos e,if_pos (by rw[bD h];have:=Nat.mul_le_mul_right k (Nat.succ_le_of_lt hlt);rw[Nat.succ_mul]at this;omega),e1,e2]
  simp[hlt,hr,hj]
 ·rw[if_neg e]
  by_cases e1:m/k=i
  ·have e2:j≠m%k:=fun e2=>e (by rw[e2,←e1];exact he)
   rw[e1,hi]
   simp[hlt,e2]
  ·rw[List.getElem?_set_ne (fun x=>e1 x.symm)]
theorem St.cell{b i j k:Nat}{l:List (List Value)}{T:TypeId}{r:List Value}{v:Value}{H':Hp}{K:Hp→Prop}(hu:cA b (.cells (rows l) T (0,0)) (.cells (rows (l.set i (r.set j v))) T (0,0)) H H')(aB:∀r∈l,r.length=k)
 (hi:l[i]? =some r)(hj:j<k)(h1:v.oneCell'=true)(h:K H'):St 1 H (.pointer (some ⟨b,0+i*k+j,none⟩)) v K:=by
 have hlt:=(List.getElem?_eq_some_iff.1 hi).1
 have hc:v.cells=#[v]:=by cases v<;>first|rfl|(simp[Value.oneCell']at h1)
 refine St.mk hu (by simp[hc]) ?_ (by simp[hc,h1]) ?_ h
 ·rw[bD aB,Nat.zero_add];have:=Nat.mul_le_mul_right k (Nat.succ_le_of_lt hlt);rw[Nat.succ_mul]at this;omega
 ·simp only[hc,Nat.zero_add,gO];exact mm aB hi hj v
theorem St.one{b off:Nat}{c c':Array Value}{T:TypeId}{v:Value}{H':Hp}{K:Hp→Prop}(hu:cA b (.cells c T (0,0)) (.cells c' T (0,0)) H H')(h1:v.oneCell'=true)(hs:off<c.size)(hc:c.setIfInBounds off v=c')(h:K H'):
  St 1 H (.pointer (some ⟨b,off,none⟩)) v K:=by
 have hv:v.cells=#[v]:=by cases v<;>first|rfl|(simp[Value.oneCell']at h1)
 exact St.mk hu (by simp[hv]) (by omega) (by simp[hv,h1]) (by simpa[hv,gO]using hc) h
theorem St.whole{b n:Nat}{c:Array Value}{T:TypeId}{r:List Value}{H':Hp}{K:Hp→Prop}(hu:cA b (.cells c T (0,0)) (.cells r.toArray T (0,0)) H H')(hs:c.size=n)(hr:r.length=n)(h1:∀v∈r,v.oneCell'=true)(h:K H'):
  St n H (.pointer (some ⟨b,0,none⟩)) (.agg r.toArray) K:=by
 refine St.mk hu (by simp[Value.cells,hr]) (by omega) (by simpa[Value.cells]using h1) ?_ h
 have:=nL r c.toList 0 (by simp;omega)
 rw[Array.toArray_toList]at this
 simp only[Value.cells]
 rw[this]
 simp[List.drop_eq_nil_of_le,hr,hs]
theorem av.whole{b n:Nat}{r:List Value}{T:TypeId}{fz:Nat×Nat}{K:Value→Prop}(hm:(b,Obj.cells r.toArray T fz)∈H)(hr:r.length=n)(h:K (.agg r.toArray)):av n H (.pointer (some ⟨b,0,none⟩)) K:=
 av.mk hm (by simp[hr]) (by simp;rw[←hr,List.take_length]) h
theorem fo{α β:Type}(f:α→β):∀(l:List α) (i:Nat),(l.map f).eraseIdx i=(l.eraseIdx i).map f
 | [],_=>rfl
 |x::l,0=>rfl
 |x::l,i+1=>by simp[fo f l i]
def eI{β:Type}(kd:IntKind)(enc:β→Value)(m:List (Int×β×Nat)):Array MapEntry:=(m.map fun x=>({key:=.int kd x.1,val:=enc x.2.1,born:=x.2.2}:MapEntry)).toArray
def fj{β:Type}(m:List (Int×β×Nat))(x:Int):Option β:=(m.find? (fun y=>x==y.1)).map (·.2.1)
def iH{β:Type}(kd:IntKind)(enc:β→Value)(v:Value)(f:Int→Option β)(C:Hp):Prop:=
 (v=.map none∧C=[]∧f=fun _=>none)∨
 ∃b m ck,v=.map (some b)∧C=[(b,.map (eI kd enc m) ck)]∧(m.map Prod.fst).Nodup∧f=fj m
theorem gy{β:Type}(kd:IntKind)(enc:β→Value)(x:Int):∀(m:List (Int×β×Nat)) (i:Nat),
  ∃r,Instr.findNow (.int kd) (.int kd x) (eI kd enc m).toList i=some r∧
   (match r with
    |none=>fj m x=none∧x∉m.map Prod.fst
    |some (j,v)=>i≤j∧∃p n,m[j-i]? =some (x,p,n)∧v=enc p∧fj m x=some p)
 | [],i=>⟨none,by simp[eI,Instr.findNow],by simp[fj]⟩
 |(y,p,n)::m,i=>by
  simp only[eI,List.map_cons,Instr.findNow,Instr.sameNow,if_true]
  by_cases e:x=y
  ·subst e
   refine⟨some (i,enc p),by simp[Instr.findNow,Instr.sameNow],Nat.le_refl _,p,n,by simp,rfl,by simp[fj]⟩
  ·obtain⟨r,hr,hp⟩:=gy kd enc x m (i+1)
   have hb:(x==y)=false:=by simpa using e
   refine⟨r,?_,?_⟩
   ·simp only[eI]at hr
    simp[Instr.findNow,Instr.sameNow,hb,hr]
   ·cases r with
    |none=>
     simp only[fj,List.find?_cons,hb]at hp⊢
     exact⟨hp.1,by simpa[e]using hp.2⟩
    |some jv=>
     obtain⟨j,v⟩:=jv
     simp only[fj,List.find?_cons,hb]at hp⊢
     obtain⟨hij,p',n',h1,h2,h3⟩:=hp
     refine⟨by omega,p',n',?_,h2,h3⟩
     rw[show j-i=(j-(i+1))+1 by omega];simpa using h1
theorem iH.look{β:Type}{kd:IntKind}{enc:β→Value}{v zero:Value}{f:Int→Option β}{C:Hp}{ok:Bool}{x:Int}{K:Value→Prop}(h:iH kd enc v f C)(hC:∀y∈C,y∈H)
 (hk:K (match f x with|some p=>cond ok (.tuple #[enc p,.bool true]) (enc p)|none=>cond ok (.tuple #[zero,.bool false]) zero)):jY (.int kd) zero ok H v (.int kd x) K:=by
 rcases h with⟨rfl,rfl,rfl⟩|⟨b,m,ck,rfl,rfl,_,rfl⟩
 ·exact⟨#[],none,.inl ⟨rfl,rfl⟩,rfl,hk⟩
 ·obtain⟨r,hr,hp⟩:=gy kd enc x m 0
  refine⟨_,r,.inr ⟨b,ck,rfl,hC _ (by simp)⟩,hr,?_⟩
  cases r with
  |none=>simp only[hp.1]at hk;exact hk
  |some jv=>
   obtain⟨j,u⟩:=jv
   obtain⟨_,p,n,_,rfl,h3⟩:=hp
   simp only[h3]at hk;exact hk
def Ga{β:Type}(f:Int→Option β)(x:Int)(p:Option β):Int→Option β:=fun y=>if y=x then p else f y
theorem iH.made{β:Type}{kd:IntKind}{enc:β→Value}(b:Nat):iH kd enc (.map (some b)) (fun _=>none) [(b,.map #[] 0)]:=
 .inr ⟨b,[],0,rfl,rfl,by simp,by funext x;simp[fj]⟩
theorem yU{β:Type}(m:List (Int×β×Nat))(x:Int)(p:β)(n:Nat)(hx:x∉m.map Prod.fst):fj (m++[(x,p,n)])=Ga (fj m) x (some p):=by
 funext y
 simp only[fj,Ga,List.find?_append]
 by_cases e:y=x
 ·subst e
  have:m.find? (fun z=>y==z.1)=none:=by
   rw[List.find?_eq_none];intro z hz;simp only[beq_iff_eq];intro e;exact hx (e▸List.mem_map_of_mem hz)
  simp[this]
 ·have e':(y==x)=false:=by simpa using e
  rw[if_neg e]
  cases h:m.find? (fun z=>y==z.1)<;>simp[e']
theorem tD{β:Type}:∀(m:List (Int×β×Nat)) (j:Nat) (x:Int) (p q:β) (n:Nat),(m.map Prod.fst).Nodup→m[j]? =some (x,q,n)→fj (m.set j (x,p,n))=Ga (fj m) x (some p)
 | [],j,_,_,_,_,_,h=>by simp at h
 |y::m,0,x,p,q,n,nd,h=>by
  simp at h;subst h
  funext z
  simp only[List.set_cons_zero,fj,Ga,List.find?_cons]
  by_cases e:z=x
  ·subst e;simp
  ·have e':(z==x)=false:=by simpa using e
   rw[if_neg e];simp[e']
 |y::m,j+1,x,p,q,n,nd,h=>by
  simp at h
  simp only[List.map_cons,List.nodup_cons]at nd
  have ih:=tD m j x p q n nd.2 h
  have hne:x≠y.1:=fun e=>nd.1 (e▸List.mem_map_of_mem (f:=Prod.fst) (List.mem_of_getElem? h))
  funext z
  have Qn:=congrFun ih z
  simp only[List.set_cons_succ,fj,Ga,List.find?_cons]at Qn⊢
  by_cases e:z=y.1
  ·have:z≠x:=fun e2=>hne (e2▸e)
   simp[e,Ne.symm hne]
  ·have e':(z==y.1)=false:=by simpa using e
   simp only[e'];exact Qn
theorem pD{β:Type}:∀(m:List (Int×β×Nat)) (j:Nat) (x:Int) (q:β) (n:Nat),(m.map Prod.fst).Nodup→m[j]? =some (x,q,n)→fj (m.eraseIdx j)=Ga (fj m) x none
 | [],j,_,_,_,_,h=>by simp at h
 |y::m,0,x,q,n,nd,h=>by
  simp at h;subst h
  simp only[List.map_cons,List.nodup_cons]at nd
  funext z
  simp only[List.eraseIdx_cons_zero,fj,Ga,List.find?_cons]
  by_cases e:z=x
  ·subst e
   have:m.find? (fun w=>z==w.1)=none:=by
    rw[List.find?_eq_none];intro w hw;simp only[beq_iff_eq];intro e;exact nd.1 (e▸List.mem_map_of_mem hw)
   simp[this]
  ·have e':(z==x)=false:=by simpa using e
   rw[if_neg e];simp[e']
 |y::m,j+1,x,q,n,nd,h=>by
  simp at h
  simp only[List.map_cons,List.nodup_cons]at nd
  have ih:=pD m j x q n nd.2 h
  have hne:x≠y.1:=fun e=>nd.1 (e▸List.mem_map_of_mem (f:=Prod.fst) (List.mem_of_getElem? h))
  funext z
  have Qn:=congrFun ih z
  simp only[List.eraseIdx_cons_succ,fj,Ga,List.find?_cons]at Qn⊢
  by_cases e:z=y.1
  ·simp[e,Ne.symm hne]
  ·have e':(z==y.1)=false:=by simpa using e
   simp only[e'];exact Qn
theorem iH.bS{β:Type}{kd:IntKind}{enc:β→Value}{b:Nat}{f:Int→Option β}{C:Hp}{x:Int}{p:β}{A B:Hp}{K:Hp→Prop}(h:iH kd enc (.map (some b)) f C)
 (hk:∀C',iH kd enc (.map (some b)) (Ga f x (some p)) C'→K (A++(C'++B))):ez (.int kd) (A++(C++B)) (.map (some b)) (.int kd x) (enc p) K:=by
 rcases h with⟨h,_,_⟩|⟨b',m,ck,hb,rfl,nd,rfl⟩
 ·simp at h
 ·simp only[Value.map.injEq,Option.some.injEq]at hb;subst hb
  obtain⟨r,hr,hp⟩:=gy kd enc x m 0
  refine⟨b,eI kd enc m,ck,r,rfl,hr,?_⟩
  cases r with
  |none=>
   refine⟨_,((cA.head _).append B).bP A,hk [(b,_)] (.inr ⟨b,m++[(x,p,ck)],ck+1,rfl,?_,?_,?_⟩)⟩
   ·simp[eI]
   ·rw[List.map_append,List.nodup_append];exact⟨nd,by simp,fun a ha c hc=>by simp at hc;subst hc;intro e;subst e;exact hp.2 ha⟩
   ·exact(yU m x p ck hp.2).symm
  |some jv=>
   obtain⟨j,u⟩:=jv
   obtain⟨_,q,n,h1,rfl,h3⟩:=hp
   rw[Nat.sub_zero]at h1
   have hlt:=(List.getElem?_eq_some_iff.1 h1).1
   refine⟨fun e he=>?_,by simpa[eI]using hlt,_,((cA.head _).append B).bP A,hk [(b,_)] (.inr ⟨b,m.set j (x,p,n),ck,rfl,?_,?_,?_⟩)⟩
   ·have:e={key:=.int kd x,val:=enc q,born:=n}:=by
     simp only[eI,List.getElem?_toArray,List.getElem?_map,h1]at he;simpa using he.symm
    subst this
    simp[Instr.sameBits]
   ·congr 3
    apply Array.ext'
    apply List.ext_getElem?
    intro i
    simp only[eI,Array.getElem?_toList,Array.getElem?_modify,List.getElem?_toArray,List.getElem?_map,List.getElem?_set]
    by_cases e:j=i
    ·subst e
     have hj:m[j]=(x,q,n):=by have:=List.getElem?_eq_getElem hlt;rw[h1]at this;simpa using this.symm
     simp[hlt,hj]
    ·simp[e]
   ·rw[List.map_set]
    have hx:(m.map Prod.fst)[j]? =some x:=by rw[List.getElem?_map,h1];rfl
    rw[show(m.map Prod.fst).set j x=m.map Prod.fst by
     apply List.ext_getElem?;intro i;rw[List.getElem?_set];by_cases e:j=i
     ·subst e;rw[hx];simp[hlt]
     ·simp[e]]
    exact nd
   ·exact(tD m j x p q n nd h1).symm
theorem iH.del{β:Type}{kd:IntKind}{enc:β→Value}{v:Value}{f:Int→Option β}{C:Hp}{x:Int}{A B:Hp}{K:Hp→Prop}(h:iH kd enc v f C)
 (hk:∀C',iH kd enc v (Ga f x none) C'→K (A++(C'++B))):si (.int kd) (A++(C++B)) v (.int kd x) K:=by
 rcases h with⟨rfl,rfl,rfl⟩|⟨b,m,ck,rfl,rfl,nd,rfl⟩
 ·refine .inl ⟨rfl,hk [] (.inl ⟨rfl,rfl,?_⟩)⟩
  funext y;simp[Ga]
 ·obtain⟨r,hr,hp⟩:=gy kd enc x m 0
  refine .inr ⟨b,eI kd enc m,ck,r,rfl,hr,?_⟩
  cases r with
  |none=>
   refine⟨by simp,hk [(b,_)] (.inr ⟨b,m,ck,rfl,rfl,nd,?_⟩)⟩
   funext y;simp only[Ga];split
   ·rename_i e;subst e;exact hp.1.symm
   ·rfl
  |some jv=>
   obtain⟨j,u⟩:=jv
   obtain⟨_,q,n,h1,rfl,h3⟩:=hp
   rw[Nat.sub_zero]at h1
   have hlt:=(List.getElem?_eq_some_iff.1 h1).1
   refine⟨_,((cA.head _).append B).bP A,hk [(b,_)] (.inr ⟨b,m.eraseIdx j,ck,rfl,?_,?_,?_⟩)⟩
   ·congr 3
    apply Array.ext'
    simp[eI,Array.eraseIdxIfInBounds,hlt,fo]
   ·rw[←fo];exact nd.sublist (List.eraseIdx_sublist _ _)
   ·exact(pD m j x q n nd h1).symm
end
end Go.Sx
namespace Go.Sx
open Go
section
variable {P:Program} {g:Gh} {H:Hp}
theorem rL(off:Nat):∀(r:List Value) (i:Nat) (c:Array Value),(r.zipIdx i).foldl (fun cs (x:Value×Nat)=>cs.setIfInBounds (off+x.2) x.1) c=gO c (off+i) r
 | [],i,c=>rfl
 |v::r,i,c=>by
  rw[List.zipIdx_cons,List.foldl_cons,rL off r (i+1)]
  rfl
theorem EL(off:Nat)(a c:Array Value):a.zipIdx.foldl (fun cs (x:Value×Nat)=>cs.setIfInBounds (off+x.2) x.1) c=gO c off a.toList:=by
 rw[←Array.foldl_toList]
 have:a.zipIdx.toList=a.toList.zipIdx 0:=by simp
 rw[this,rL off a.toList 0 c];rfl
def v8:List Value→Nat→List Value→List Value
 |c,_,[]=>c
 |c,off,v::r=>v8 (c.set off v) (off+1) r
theorem mV:∀(r c:List Value) (off:Nat),gO c.toArray off r=(v8 c off r).toArray
 | [],c,off=>rfl
 |v::r,c,off=>by
  have:c.toArray.setIfInBounds off v=(c.set off v).toArray:=by simp
  rw[gO,v8,this,mV r]
def rM(place:Nat→Option (Nat×Nat)):List Value→List (Nat×Value)→Option (List Value)
 |c,[]=>some c
 |c,(i,v)::r=>
  match place i with
  |none=>none
  |some (off,size)=>cond (Nat.beq v.cells.toList.length size&&Nat.ble (off+v.cells.toList.length) c.length) (rM place (v8 c off v.cells.toList) r) none
theorem jG{place:Nat→Option (Nat×Nat)}:∀(r:List (Nat×Value)) (c cs:List Value),rM place c r=some cs→Instr.fill place c.toArray r=some cs.toArray
 | [],c,cs,h=>by simp only[rM,Option.some.injEq]at h;subst h;rfl
 |(i,v)::r,c,cs,h=>by
  simp only[rM]at h
  simp only[Instr.fill]
  split at h
  ·simp at h
  ·rename_i off size hp
   cases hc:(Nat.beq v.cells.toList.length size&&Nat.ble (off+v.cells.toList.length) c.length)<;>simp only[hc,cond_true,cond_false,reduceCtorEq]at h
   simp only[Bool.and_eq_true]at hc
   have h1:=Nat.eq_of_beq_eq_true hc.1
   have h2:=Nat.le_of_ble_eq_true hc.2
   have h3:v.cells.toList.length=v.cells.size:=Array.length_toList
   have hsz:v.cells.size=size:=by rw[←h3];exact h1
   have hle:off+v.cells.size≤c.length:=by rw[←h3];exact h2
   simp only[hp]
   have Rj:(decide (v.cells.size≠size)||decide (off+v.cells.size>c.toArray.size))=false:=by
    rw[Bool.or_eq_false_iff];exact⟨by simp[hsz],by simp only[List.size_toArray,decide_eq_false_iff_not];omega⟩
   rw[Rj]
   simp only[Bool.false_eq_true,if_false]
   rw[EL,mV]
   exact jG r _ cs h
def nI(P:Program):List Field→Option (List (Nat×Nat))
 | []=>some []
 |f::r=>match cT P f.type,nI P r with
  |some n,some l=>some ((f.offset,n)::l)
  |_,_=>none
def Ji(P:Program)(t:TypeId)(parts:List (Nat×Value)):Option (List Value):=
 match P.underlying t,dR P t with
 |some (.struct fs),some z=>match nI P fs.toList with
  |some pl=>rM (fun i=>pl[i]?) z.cells.toList parts
  |none=>none
 |_,_=>none
theorem pA:∀(fs:List Field) (pl:List (Nat×Nat)),nI P fs=some pl→∀w,(fs.mapM fun f=>(do pure (f.offset,←sizeOf f.type):Sem (Nat×Nat))).run P w=.ok pl w
 | [],pl,h,w=>by simp only[nI,Option.some.injEq]at h;subst h;rfl
 |f::r,pl,h,w=>by
  simp only[nI]at h
  split at h
  ·rename_i n l hn hl
   simp only[Option.some.injEq]at h;subst h
   obtain⟨i,hi,hin⟩:=bF hn
   have ih:=pA r l hl w
   simp only[List.mapM_cons,Sem.run_bind,run_sizeOf hi,Result.andThen_ok,Sem.run_pure,hin,ih]
  ·simp at h
theorem Build.mk{t:TypeId}{parts:List (Nat×Value)}{cs:List Value}{k:Value→Prop}(hb:Ji P t parts=some cs)(h:k (.agg cs.toArray)):Build P t parts k:=by
 refine⟨_,fun w=>?_,h⟩
 unfold Ji at hb
 split at hb
 ·rename_i fs z hu hz
  split at hb
  ·rename_i pl nj
   obtain⟨i,hi,sN⟩:=cJ hz
   have hf:=jG _ _ _ hb
   have hp:=pA fs.toList pl nj w
   simp only[Instr.build,Sem.run_bind,dU hi sN,Result.andThen_ok,run_underlying hu]
   have e2:((fs.mapM fun f=>(do pure (f.offset,←sizeOf f.type):Sem (Nat×Nat))).run P w)=.ok pl.toArray w:=by
    rw[Array.mapM_eq_mapM_toList]
    simp only[Sem.run_map,hp,Result.andThen_ok]
   rw[e2]
   show Sem.run P _ w=_
   have e3:Instr.fill (fun x=>pl.toArray[x]?) z.cells parts=some cs.toArray:=by
    simpa using hf
   simp only[e3]
   rfl
  ·simp at hb
 ·simp at hb
theorem an.one{t e k:Nat}{z:Value}{r:List Value}{K:Value→Hp→Prop}(h1:P.underlying t=some (.slice e))(h2:cT P e=some k)(h3:dR P e=some z)(hk:0<k∧k≤16777216)(hr:r.length=k)
 (h:∀b,K (.slice (some ⟨b,0,none⟩) 1 1) ((b,.cells r.toArray e (0,0))::H)):an P t 1 [(0,.agg r.toArray)] H K:=by
 refine⟨r.toArray,e,k,z,h1,h2,h3,by omega,?_,fun b _=>h b⟩
 have:((Array.range (1*k)).map (z.cells[· %z.cells.size]!))=(((Array.range (1*k)).map (z.cells[· %z.cells.size]!)).toList).toArray:=by rw[Array.toArray_toList]
 rw[this]
 generalize hc:((Array.range (1*k)).map (z.cells[· %z.cells.size]!)).toList=c
 have hlen:c.length=k:=by rw[←hc];simp
 refine jG _ _ _ ?_
 simp only[rM,Value.cells]
 have hb:(Nat.beq r.toArray.toList.length k&&Nat.ble (0*k+r.toArray.toList.length) c.length)=true:=by simp[hr,hlen]
 rw[hb]
 simp only[cond_true,Option.some.injEq]
 have:=nL r c 0 (by omega)
 rw[mV]at this
 have h5:v8 c 0 r=List.take 0 c++r++List.drop (0+r.length) c:=by simpa using congrArg Array.toList this
 simp only[Nat.zero_mul]
 rw[h5]
 simp[List.drop_eq_nil_of_le,hr,hlen]
end
end Go.Sx
namespace Go.Sx
open Go
section
variable {P:Program} {g:Gh} {H:Hp}
theorem iH.lp{β:Type}{kd:IntKind}{enc:β→Value}{v zero:Value}{f:Int→Option β}{C:Hp}{ok:Bool}{x:Int}{K:Value→Prop}{p:β}(h:iH kd enc v f C)(hC:∀y∈C,y∈H)(hf:f x=some p)
 (hk:K (cond ok (.tuple #[enc p,.bool true]) (enc p))):jY (.int kd) zero ok H v (.int kd x) K:=h.look hC (by rw[hf];exact hk)
theorem iH.oJ{β:Type}{kd:IntKind}{enc:β→Value}{v zero:Value}{f:Int→Option β}{C:Hp}{ok:Bool}{x:Int}{K:Value→Prop}(h:iH kd enc v f C)(hC:∀y∈C,y∈H)(hf:f x=none)
 (hk:K (cond ok (.tuple #[zero,.bool false]) zero)):jY (.int kd) zero ok H v (.int kd x) K:=h.look hC (by rw[hf];exact hk)
theorem di.upto{size n c h:Nat}{a:Option Addr}{kd:IntKind}{k:Value→Prop}(hh:h≤c)(hk:k (.slice a h c)):di size (.slice a n c) none (some (.int kd (h:Int))) k:=by
 refine⟨a,n,c,0,h,rfl,rfl,rfl,by omega,by omega,by omega,?_⟩
 have:(if c=(0:Int).toNat then a else a.map (·.add ((0:Int).toNat*size)))=a:=by
  split
  ·rfl
  ·simp only[Int.toNat_zero,Nat.zero_mul]
   cases a with
   |none=>rfl
   |some x=>simp[Addr.add_zero']
 rw[this]
 simpa using hk
end
end Go.Sx
namespace Go.Sx
open Go
section
variable {P:Program} {g:Gh} {H:Hp}
inductive bj(C:Hp):Hp→(Hp→Hp)→Prop
 |here:bj C C (fun X=>X)
 |left {A:Hp}:bj C (C++A) (fun X=>X++A)
 |cons {x:Nat×Obj} {H:Hp} {c:Hp→Hp} (h:bj C H c):bj C (x::H) (fun X=>x::c X)
 |app {A H:Hp} {c:Hp→Hp} (h:bj C H c):bj C (A++H) (fun X=>A++c X)
theorem bj.spec{C H:Hp}{c:Hp→Hp}(h:bj C H c):H=c C∧∃F,∀X,(c X).Perm (X++F):=by
 induction h with
 |here=>exact⟨rfl,[],fun X=>by simp⟩
 | @left A=>exact⟨rfl,A,fun X=>.refl _⟩
 | @cons x H c h ih=>
  obtain⟨h1,F,h2⟩:=ih
  exact⟨by rw[h1],x::F,fun X=>(List.Perm.cons x (h2 X)).trans List.perm_middle.symm⟩
 | @app A H c h ih=>
  obtain⟨h1,F,h2⟩:=ih
  refine⟨by rw[h1],A++F,fun X=>(List.Perm.append_left A (h2 X)).trans ?_⟩
  rw[←List.append_assoc,←List.append_assoc];exact List.perm_append_comm.append_right F
theorem bj.nr{C H:Hp}{c:Hp→Hp}(h:bj C H c){X Y:Hp}(e:aJ X Y):aJ (c X) (c Y):=by
 obtain⟨_,F,hp⟩:=h.spec
 exact(aJ.perm (hp X)).trans ((e.frame F).trans (.perm (hp Y).symm))
theorem aJ.cons{x:Nat×Obj}{A B:Hp}(h:aJ A B):aJ (x::A) (x::B):=aJ.cv h [x]
theorem aJ.skip{x:Nat×Obj}{A B:Hp}(h:aJ A B):aJ (x::A) B:=aJ.tail.trans h
theorem aJ.bJ{X A B:Hp}(h:aJ A B):aJ (X++A) B:=aJ.right.trans h
theorem aJ.assoc{A B C:Hp}:aJ ((A++B)++C) (A++(B++C)):=fun _ _ h=>by rw[←List.append_assoc];exact h
theorem bZ.frame{f:FuncId}{args:Array Value}{C F:Hp}{R:Ending→Hp→Prop}(h:∀g,bZ P g f args C R):bZ P g f args (C++F) (fun e H'=>∃C',H'=C'++F∧R e C'):=by
 intro w hw
 exact((h (g.add F)) w (Own.fk.1 hw)).mono fun e w' ⟨H',ho,hr⟩=>⟨_,Own.fk.2 ho,H',rfl,hr⟩
theorem bZ.hole{f:FuncId}{args:Array Value}{C H:Hp}{c:Hp→Hp}{R:Ending→Hp→Prop}(hh:bj C H c)(h:∀g,bZ P g f args C R):bZ P g f args H (fun e H'=>∃C',H'=c C'∧R e C'):=by
 obtain⟨rfl,F,hp⟩:=hh.spec
 exact((bZ.frame (F:=F) h).pre (.perm (hp C))).post fun e H' ⟨C',h1,h2⟩=>⟨c C',by rw[h1];exact .perm (hp C').symm,C',rfl,h2⟩
def Fc(P:Program)(f:FuncId)(args:Array Value)(C:Hp)(Q:Value→Hp→Prop):Prop:=
 ∀g,bZ P g f args C (fun e H'=>∃v jk,e=.returned v∧aJ H' jk∧Q v jk)
def bN(Q:Value→Hp→Prop):Ending→Hp→Prop:=fun e H'=>∃v jk,e=.returned v∧aJ H' jk∧Q v jk
theorem bN.mk{Q:Value→Hp→Prop}{v:Value}{H jk:Hp}(he:aJ H jk)(h:Q v jk):bN Q (.returned v) H:=⟨v,jk,rfl,he,h⟩
theorem bN.here{Q:Value→Hp→Prop}{v:Value}{H:Hp}(h:Q v H):bN Q (.returned v) H:=⟨v,H,rfl,.refl _,h⟩
theorem Fc.mono{f:FuncId}{args:Array Value}{C:Hp}{Q Q':Value→Hp→Prop}(h:Fc P f args C Q)(hq:∀v H,Q v H→Q' v H):Fc P f args C Q':=
 fun g=>(h g).mono fun e H' ⟨v,jk,h1,h2,h3⟩=>⟨v,jk,h1,h2,hq _ _ h3⟩
def Rd(P:Program)(f:FuncId)(args:Array Value)(B:Hp)(Q:Value→Prop):Prop:=Fc P f args B (fun v H=>H=B∧Q v)
theorem ae.fn{f:FuncId}{args:Array Value}{C H:Hp}{c:Hp→Hp}{Q:Value→Hp→Prop}{K:Value→Hp→Prop}{KP:List PanicEntry→Hp→Prop}(hh:bj C H c)(hc:Fc P f args C Q)
 (hk:∀v C',Q v C'→K v (c C')):ae P g f args H K KP:=
 (bZ.hole hh hc).post fun e H' ⟨C',h1,v,Xq,h2,h3,h4⟩=>⟨c Xq,by rw[h1];exact hh.nr h3,by subst h2;exact hk _ _ h4⟩
theorem ae.rd{f:FuncId}{args:Array Value}{B H:Hp}{c:Hp→Hp}{Q:Value→Prop}{K:Value→Hp→Prop}{KP:List PanicEntry→Hp→Prop}(hh:bj B H c)(hc:Rd P f args B Q)
 (hk:∀v,Q v→K v H):ae P g f args H K KP:=
 ae.fn hh hc fun v C' ⟨h1,h2⟩=>by subst h1;rw[←hh.spec.1];exact hk v h2
theorem gk.of{fv:Value}{args:Array Value}{K:Value→Hp→Prop}{KP:List PanicEntry→Hp→Prop}{f:FuncId}{first captured:Array Value}(hf:fv=.func (.func f) first captured)(hc:cC P f=true)
 (h:ae P g f (first++args++captured) H K KP):gk P g fv args H K KP:=⟨f,first,captured,hf,hc,h⟩
theorem DR.self{body:Hp→Prop}(h:body H):DR H body:=⟨H,.refl _,h⟩
theorem DR.of{R:Hp}{body:Hp→Prop}(e:aJ H R)(h:body R):DR H body:=⟨R,e,h⟩
def At(B:Hp)(p:Value)(r:List Value):Prop:=∃b o c T fz,p=.pointer (some ⟨b,o,none⟩)∧(b,Obj.cells c T fz)∈B∧∀j v,r[j]? =some v→c[o+j]? =some v
theorem At.block{b:Nat}{l:List Value}{T:TypeId}{fz:Nat×Nat}{B:Hp}(h:(b,Obj.cells l.toArray T fz)∈B):At B (.pointer (some ⟨b,0,none⟩)) l:=
 ⟨b,0,_,T,fz,rfl,h,fun j v hj=>by simpa using hj⟩
theorem Ld.at{p v:Value}{r:List Value}{B:Hp}{k:Value→Prop}(h:At B p (v::r))(hs:∀x∈B,x∈H)(hk:k v):Ld H p k:=by
 obtain⟨b,o,c,T,fz,h1,h2,h3⟩:=h
 exact⟨b,o,c,T,fz,v,h1,hs _ h2,by simpa using h3 0 v rfl,hk⟩
theorem ag.at{p:Value}{r:List Value}{B:Hp}{j:Nat}{k:Value→Prop}(h:At B p r)(hk:∀q,At B q (r.drop j)→k q):ag j p k:=by
 obtain⟨b,o,c,T,fz,h1,h2,h3⟩:=h
 refine⟨b,o,h1,hk _ ⟨b,o+j,c,T,fz,rfl,h2,fun i v hi=>?_⟩⟩
 rw[List.getElem?_drop]at hi
 rw[Nat.add_assoc];exact h3 _ _ hi
theorem av.at{p:Value}{r:List Value}{B:Hp}{n:Nat}{k:Value→Prop}(h:At B p r)(hn:r.length=n)(hp:0<n)(hs:∀x∈B,x∈H)(hk:k (.agg r.toArray)):av n H p k:=by
 obtain⟨b,o,c,T,fz,h1,h2,h3⟩:=h
 have hsz:o+n≤c.size:=by
  have:=h3 (n-1) (r[n-1]'(by omega)) (List.getElem?_eq_getElem _)
  have:=(Array.getElem?_eq_some_iff.1 this).1
  omega
 refine⟨b,o,c,T,fz,h1,hs _ h2,hsz,?_⟩
 have:c.extract o (o+n)=r.toArray:=by
  apply Array.ext
  ·simp;omega
  ·intro i Q5 mr
   simp only[List.size_toArray]at mr
   have:=h3 i r[i] (List.getElem?_eq_getElem _)
   rw[Array.getElem_extract]
   have:=(Array.getElem?_eq_some_iff.1 this).2
   simpa using this
 rw[this];exact hk
def Sl(k:Nat)(B:Hp)(v:Value)(rs:List (List Value)):Prop:=
 (∀r∈rs,r.length=k)∧
 ((∃a cap,v=.slice a 0 cap∧rs=[])∨∃b o cap c T fz,v=.slice (some ⟨b,o,none⟩) rs.length cap∧rs.length≤cap∧(b,Obj.cells c T fz)∈B∧o+rs.length*k≤c.size∧∀i r,rs[i]? =some r→∀j v,r[j]? =some v→c[o+i*k+j]? =some v)
theorem Sl.mono{k:Nat}{B B':Hp}{v:Value}{rs:List (List Value)}(h:Sl k B v rs)(hs:∀x∈B,x∈B'):Sl k B' v rs:=by
 obtain⟨h0,h⟩:=h
 refine⟨h0,?_⟩
 rcases h with h|⟨b,o,cap,c,T,fz,h1,h2,h3,h4⟩
 ·exact .inl h
 ·exact .inr ⟨b,o,cap,c,T,fz,h1,h2,hs _ h3,h4⟩
theorem Sl.nil(k:Nat)(B:Hp):Sl k B (.slice none 0 0) []:=⟨by simp,.inl ⟨_,_,rfl,rfl⟩⟩
theorem Sl.shape{k:Nat}{B:Hp}{v:Value}{rs:List (List Value)}(h:Sl k B v rs):∃a cap,v=.slice a rs.length cap∧rs.length≤cap:=by
 rcases h.2 with⟨a,cap,rfl,rfl⟩|⟨b,o,cap,c,T,fz,h1,h2,_⟩
 ·exact⟨_,_,rfl,Nat.zero_le _⟩
 ·exact⟨_,_,h1,h2⟩
theorem Sl.aL{k:Nat}{B:Hp}{v:Value}{rs:List (List Value)}(h:Sl k B v rs){K:Value→Prop}(hk:K (.int .i64 rs.length)):aA v K:=by
 obtain⟨a,c,rfl,_⟩:=h.shape;exact aA.mk hk
theorem aj.sl{k:Nat}{B:Hp}{v:Value}{rs:List (List Value)}{kd:IntKind}{i:Nat}{r:List Value}{K:Value→Prop}(h:Sl k B v rs)(hi:rs[i]? =some r)(hk:∀p,At B p r→K p):aj k v (.int kd (i:Int)) K:=by
 have hlt:=(List.getElem?_eq_some_iff.1 hi).1
 rcases h.2 with⟨a,cap,rfl,rfl⟩|⟨b,o,cap,c,T,fz,h1,h2,h3,h4,h5⟩
 ·simp at hlt
 ·subst h1
  refine aj.nat (by omega) (hk _ ⟨b,_,c,T,fz,rfl,h3,fun j v hj=>h5 i r hi j v hj⟩)
theorem Sl.cells{k:Nat}{B:Hp}{v:Value}{rs:List (List Value)}(h:Sl k B v rs):∃a cap,v=.slice a rs.length cap∧Cells B a (rs.length*k) (rows rs):=by
 rcases h.2 with⟨a,cap,rfl,rfl⟩|⟨b,o,cap,c,T,fz,h1,h2,h3,h4,h5⟩
 ·refine⟨a,cap,rfl,?_⟩
  cases a with
  |none=>simp[Cells,rows]
  |some a=>exact .inl ⟨by simp,rfl⟩
 ·refine⟨_,cap,h1,.inr ⟨rfl,c,T,fz,h3,h4,?_⟩⟩
  apply Array.ext
  ·rw[bD h.1];simp;omega
  ·intro i Q5 mr
   rw[bD h.1]at Q5
   have hk:0<k:=Nat.pos_of_ne_zero fun e=>by simp[e]at Q5
   have hd:i/k<rs.length:=Nat.div_lt_of_lt_mul (by rw[Nat.mul_comm];exact Q5)
   have hm:i%k<k:=Nat.mod_lt _ hk
   have he:i/k*k+i%k=i:=by rw[Nat.mul_comm];exact Nat.div_add_mod i k
   have hr:=h.1 rs[i/k] (List.getElem_mem hd)
   have g1:=fL h.1 (i:=i/k) hm
   rw[he,List.getElem?_eq_getElem hd,Option.bind_some,List.getElem?_eq_getElem (by omega)]at g1
   have g2:=h5 (i/k) _ (List.getElem?_eq_getElem hd) (i%k) _ (List.getElem?_eq_getElem (by omega))
   rw[Nat.add_assoc,he]at g2
   have e1:=(Array.getElem?_eq_some_iff.1 g1).2
   have e2:=(Array.getElem?_eq_some_iff.1 g2).2
   rw[Array.getElem_extract]
   exact e1.trans e2.symm
theorem Sl.qN{T:TypeId}{k:Nat}{v:Value}{rs:List (List Value)}{C:Hp}(h:aO T k v rs C)(hk:0<k):Sl k C v rs:=by
 rcases h with⟨rfl,rfl,rfl⟩|⟨b,aD,rfl,rfl,aB⟩
 ·exact Sl.nil _ _
 ·refine⟨fun r hr=>aB r (by simp[hr]),.inr ⟨b,0,_,rows (rs++aD),T,(0,0),rfl,by omega,by simp,?_,fun i r hi j v hj=>?_⟩⟩
  ·rw[bD aB,List.length_append,Nat.zero_add];exact Nat.mul_le_mul_right _ (by omega)
  ·have hlt:=(List.getElem?_eq_some_iff.1 hi).1
   have hr:=aB r (List.mem_append_left _ (List.mem_of_getElem? hi))
   have Ls:j<k:=by rw[←hr];exact(List.getElem?_eq_some_iff.1 hj).1
   rw[Nat.zero_add,fL aB Ls,List.getElem?_append_left hlt,hi];exact hj
end
end Go.Sx
namespace Go.Sx
open Go
def aY:IntKind→Nat
 | .i8=>128| .i16=>32768| .i32=>2147483648| .i64=>9223372036854775808
 | .u8=>256| .u16=>65536| .u32=>4294967296| .u64=>18446744073709551616
theorem eA{kd:IntKind}{n:Nat}(h:n<aY kd):kd.wrap (n:Int)=n:=by
 cases kd<;>simp only[aY]at h<;>simp only[IntKind.wrap,IntKind.bits,IntKind.signed,Bool.false_and,Bool.true_and,Bool.false_eq_true,if_false,decide_eq_true_eq]
 all_goals first
  |omega
  |(rw[if_neg (by simp;omega)];omega)
theorem wrap_u64(n:Int):IntKind.u64.wrap n=n%18446744073709551616:=by simp[IntKind.wrap,IntKind.bits,IntKind.signed]
theorem Hz(kd:IntKind):aY kd≤2^kd.bits:=by cases kd<;>decide
def jL(a b:Nat):Nat:=a^^^(a&&&b)
theorem cD(a b j:Nat):(jL a b).testBit j=(a.testBit j&& !b.testBit j):=by
 unfold jL;rw[Nat.testBit_xor,Nat.testBit_and];cases a.testBit j<;>cases b.testBit j<;>rfl
theorem iB(a b:Nat):jL a b≤a:=by
 have:jL a b=a&&&jL a b:=by
  apply Nat.eq_of_testBit_eq;intro j
  rw[Nat.testBit_and,cD];cases a.testBit j<;>simp
 rw[this];exact Nat.and_le_left
theorem bits_nat{kd:IntKind}{a b:Nat}(ha:a<aY kd)(hb:b<aY kd):
  bits .and kd a b=((a&&&b:Nat):Int)∧bits .or kd a b=((a|||b:Nat):Int)∧bits .xor kd a b=((a^^^b:Nat):Int)∧bits .andNot kd a b=((jL a b:Nat):Int):=by
 have hl:=Hz kd
 have h1:(BitVec.ofInt kd.bits (a:Int)).toNat=a:=by rw[BitVec.ofInt_natCast,BitVec.toNat_ofNat,Nat.mod_eq_of_lt (by omega)]
 have h2:(BitVec.ofInt kd.bits (b:Int)).toNat=b:=by rw[BitVec.ofInt_natCast,BitVec.toNat_ofNat,Nat.mod_eq_of_lt (by omega)]
 obtain⟨n,hn⟩:∃n,aY kd=2^n:=by cases kd<;>first|exact⟨7,rfl⟩|exact⟨15,rfl⟩|exact⟨31,rfl⟩|exact⟨63,rfl⟩|exact⟨8,rfl⟩|exact⟨16,rfl⟩|exact⟨32,rfl⟩|exact⟨64,rfl⟩
 rw[hn]at ha hb
 refine⟨?_,?_,?_,?_⟩
 ·simp only[bits,BitVec.toNat_and,h1,h2]
  exact eA (by rw[hn];exact Nat.lt_of_le_of_lt Nat.and_le_left ha)
 ·simp only[bits,BitVec.toNat_or,h1,h2]
  exact eA (by rw[hn];exact Nat.or_lt_two_pow ha hb)
 ·simp only[bits,BitVec.toNat_xor,h1,h2]
  exact eA (by rw[hn];exact Nat.xor_lt_two_pow ha hb)
 ·simp only[bits]
  have:(BitVec.ofInt kd.bits (a:Int) &&& ~~~BitVec.ofInt kd.bits (b:Int)).toNat=jL a b:=by
   apply Nat.eq_of_testBit_eq;intro j
   rw[cD,←BitVec.getLsbD,BitVec.getLsbD_and,BitVec.getLsbD_not,BitVec.getLsbD,BitVec.getLsbD,h1,h2]
   by_cases hj:j<kd.bits
   ·simp[hj]
   ·have:a.testBit j=false:=Nat.testBit_lt_two_pow (Nat.lt_of_lt_of_le ha (by rw[←hn];exact Nat.le_trans hl (Nat.pow_le_pow_right (by decide) (by omega))))
    simp[this]
  rw[this]
  exact eA (by rw[hn];exact Nat.lt_of_le_of_lt (iB a b) ha)
section
variable {kd qY:IntKind} {a b:Nat} {k:Value→Prop}
theorem aa.gY(ha:a<aY kd)(hb:b<aY kd)(h:k (.int kd ((a&&&b:Nat):Int))):aa .num .and (.int kd a) (.int kd b) k:=⟨_,by simp[eS,iE,(bits_nat ha hb).1],h⟩
theorem aa.yP(ha:a<aY kd)(hb:b<aY kd)(h:k (.int kd ((a|||b:Nat):Int))):aa .num .or (.int kd a) (.int kd b) k:=⟨_,by simp[eS,iE,(bits_nat ha hb).2.1],h⟩
theorem aa.Np(ha:a<aY kd)(hb:b<aY kd)(h:k (.int kd ((a^^^b:Nat):Int))):aa .num .xor (.int kd a) (.int kd b) k:=⟨_,by simp[eS,iE,(bits_nat ha hb).2.2.1],h⟩
theorem aa.x7(ha:a<aY kd)(hb:b<aY kd)(h:k (.int kd ((jL a b:Nat):Int))):aa .num .andNot (.int kd a) (.int kd b) k:=⟨_,by simp[eS,iE,(bits_nat ha hb).2.2.2],h⟩
theorem aa.fD(ha:a<aY kd)(h:k (.int kd ((a>>>b:Nat):Int))):aa .num .shr (.int kd a) (.int qY b) k:=by
 refine⟨_,?_,h⟩
 have h0:¬((b:Int)<0):=by omega
 simp only[eS,h0,if_false,Option.some.injEq,Value.int.injEq,true_and,Int.toNat_natCast]
 rw[Int.fdiv_eq_ediv_of_nonneg _ (Int.le_of_lt (Int.pow_pos (by decide))),Nat.shiftRight_eq_div_pow]
 have hl:=Hz kd
 by_cases hb:b≤kd.bits
 ·rw[Nat.min_eq_left hb];push_cast;rfl
 ·rw[Nat.min_eq_right (by omega)]
  have h1:a/2^kd.bits=0:=Nat.div_eq_of_lt (by omega)
  have h2:a/2^b=0:=Nat.div_eq_of_lt (Nat.lt_of_lt_of_le (by omega) (Nat.pow_le_pow_right (by decide) (by omega:kd.bits≤b)))
  have:(a:Int) / (2^kd.bits:Int)=((a/2^kd.bits:Nat):Int):=by push_cast;rfl
  rw[this,h1,h2]
theorem aa.kf(hb:b≤kd.bits)(hr:a<<<b<aY kd)(h:k (.int kd ((a<<<b:Nat):Int))):aa .num .shl (.int kd a) (.int qY b) k:=by
 refine⟨_,?_,h⟩
 have h0:¬((b:Int)<0):=by omega
 simp only[eS,h0,if_false,Option.some.injEq,Value.int.injEq,true_and,Int.toNat_natCast,Nat.min_eq_left hb]
 rw[←eA hr,Nat.shiftLeft_eq];push_cast;rfl
theorem aa.nF(h:k (.int .u64 (((a<<<b)%18446744073709551616:Nat):Int))):aa .num .shl (.int .u64 a) (.int qY b) k:=by
 refine⟨_,?_,h⟩
 have h0:¬((b:Int)<0):=by omega
 simp only[eS,h0,if_false,Option.some.injEq,Value.int.injEq,true_and,Int.toNat_natCast,IntKind.bits,wrap_u64]
 rw[Nat.shiftLeft_eq]
 by_cases hb:b≤64
 ·rw[Nat.min_eq_left hb,Int.natCast_emod,Int.natCast_mul,Int.natCast_pow];rfl
 ·rw[Nat.min_eq_right (by omega)]
  have h1:(a*2^b)%18446744073709551616=0:=by
   have:2^b=18446744073709551616*2^(b-64):=by rw[show(18446744073709551616:Nat)=2^64 by rfl,←Nat.pow_add];congr 1;omega
   rw[this,Nat.mul_left_comm];exact Nat.mul_mod_right _ _
  rw[h1]
  exact Int.mul_emod_left _ _
theorem aa.Ma(hr:a+b<aY kd)(h:k (.int kd ((a+b:Nat):Int))):aa .num .add (.int kd a) (.int kd b) k:=by
 refine aa.add ?_
 have:((a:Int)+(b:Int))=((a+b:Nat):Int):=by push_cast;rfl
 rw[this,eA hr];exact h
theorem aa.qv(ha:a<aY kd)(hb:b≤a)(h:k (.int kd ((a-b:Nat):Int))):aa .num .sub (.int kd a) (.int kd b) k:=by
 refine aa.sub ?_
 have:((a:Int) -(b:Int))=((a-b:Nat):Int):=by omega
 rw[this,eA (by omega)];exact h
theorem aa.TK(hr:a*b<aY kd)(h:k (.int kd ((a*b:Nat):Int))):aa .num .mul (.int kd a) (.int kd b) k:=by
 refine aa.mul ?_
 have:((a:Int)*(b:Int))=((a*b:Nat):Int):=by push_cast;rfl
 rw[this,eA hr];exact h
theorem aa.sS(ha:a<aY kd)(hb:b≠0)(h:k (.int kd ((a/b:Nat):Int))):aa .num .quo (.int kd a) (.int kd b) k:=by
 refine⟨_,?_,h⟩
 have h0:¬((b:Int)=0):=by omega
 simp only[eS,iE,if_true,h0,if_false]
 have:(a:Int).tdiv b=((a/b:Nat):Int):=by rw[Int.tdiv_eq_ediv_of_nonneg (by omega)];push_cast;rfl
 rw[this,eA (Nat.lt_of_le_of_lt (Nat.div_le_self _ _) ha)]
theorem aa.wx(hb:b≠0)(h:k (.int kd ((a%b:Nat):Int))):aa .num .rem (.int kd a) (.int kd b) k:=by
 refine⟨_,?_,h⟩
 have h0:¬((b:Int)=0):=by omega
 simp only[eS,iE,if_true,h0,if_false]
 have:(a:Int).tmod b=((a%b:Nat):Int):=by rw[Int.tmod_eq_emod_of_nonneg (by omega)];push_cast;rfl
 rw[this]
theorem aa.oW{x y:Int}(h:k (.bool (decide (x=y)))):aa .num .eql (.int kd x) (.int kd y) k:=aa.eql (by rw[show(x==y)=decide (x=y)from by cases hb:decide (x=y)<;>simp_all];exact h)
theorem aa.fZ{x y:Int}(h:k (.bool (decide (x≠y)))):aa .num .neq (.int kd x) (.int kd y) k:=aa.neq (by rw[show(x !=y)=decide (x≠y)from by cases hb:decide (x=y)<;>simp_all];exact h)
theorem aa.iK(h:k (.bool (decide (a=b)))):aa .num .eql (.int kd a) (.int kd b) k:=aa.oW (by simpa[Int.natCast_inj]using h)
theorem aa.l6(h:k (.bool (decide (a≠b)))):aa .num .neq (.int kd a) (.int kd b) k:=aa.fZ (by simpa[Int.natCast_inj]using h)
theorem aa.cZ(h:k (.bool (decide (a<b)))):aa .num .lss (.int kd a) (.int kd b) k:=aa.lss (by simpa[Int.ofNat_lt]using h)
theorem aa.CG(h:k (.bool (decide (a≤b)))):aa .num .leq (.int kd a) (.int kd b) k:=aa.leq (by simpa[Int.ofNat_le]using h)
theorem aa.jb(h:k (.bool (decide (b<a)))):aa .num .gtr (.int kd a) (.int kd b) k:=aa.gtr (by simpa[Int.ofNat_lt]using h)
theorem aa.m0(h:k (.bool (decide (b≤a)))):aa .num .geq (.int kd a) (.int kd b) k:=aa.geq (by simpa[Int.ofNat_le]using h)
theorem bf.nat(ha:a<aY kd)(h:k (.int kd (a:Int))):bf kd (.int qY a) k:=bf.of (eA ha) h
theorem bf.Vx(h:k (.int .u8 ((a%256:Nat):Int))):bf .u8 (.int qY a) k:=bf.of (by simp[IntKind.wrap,IntKind.bits,IntKind.signed]) h
theorem Un.TJ(ha:a<18446744073709551616)(h:k (.int .u64 (((18446744073709551616-a)%18446744073709551616:Nat):Int))):Un .neg (.int .u64 a) k:=by
 refine⟨_,?_,h⟩
 simp only[Sz,wrap_u64,Option.some.injEq,Value.int.injEq,true_and];omega
theorem Un.Gv(ha:a<18446744073709551616)(h:k (.int .u64 ((18446744073709551615-a:Nat):Int))):Un .xor (.int .u64 a) k:=by
 refine⟨_,?_,h⟩
 have e:(if IntKind.u64.signed=true then(-1:Int)else IntKind.u64.max)=((18446744073709551615:Nat):Int):=by decide
 simp only[Sz,e,(bits_nat (kd:=.u64) (a:=18446744073709551615) (b:=a) (by decide) ha).2.2.1,Option.some.injEq,Value.int.injEq,true_and]
 congr 1
 have:18446744073709551615^^^a=18446744073709551615-a:=by
  have Db:a<2^64:=ha
  rw[show(18446744073709551615:Nat)=2^64-1 by rfl]
  apply Nat.eq_of_testBit_eq;intro j
  rw[Nat.testBit_xor,show 2^64-1-a=2^64-(a+1)by omega,Nat.testBit_two_pow_sub_succ Db,Nat.testBit_two_pow_sub_one]
  by_cases hj:j<64
  ·simp[hj]
  ·simp[hj];exact Nat.testBit_lt_two_pow (Nat.lt_of_lt_of_le Db (Nat.pow_le_pow_right (by decide) (by omega)))
 exact this
end
theorem Br.dec{p:Prop}[Decidable p]{t f:Prop}(h1:p→t)(h2:¬p→f):Br (.bool (decide p)) t f:=⟨_,rfl,fun h=>h1 (by simpa using h),fun h=>h2 (by simpa using h)⟩
theorem Br.zF{p:Prop}[Decidable p]{t f:Prop}(hp:p)(h1:t):Br (.bool (decide p)) t f:=Br.dec (fun _=>h1) fun h=>absurd hp h
theorem Br.xO{p:Prop}[Decidable p]{t f:Prop}(hp:¬p)(h1:f):Br (.bool (decide p)) t f:=Br.dec (fun h=>absurd h hp) fun _=>h1
end Go.Sx
namespace af
open Go.Sx
def wN(n:Nat):Nat:=max 1 (2^n/64)
def bQ(n:Nat):Nat:=if 6≤n then 18446744073709551615 else 2^2^n-1
structure bO(n:Nat)(ws:List Nat):Prop where
 jz:n≤16
 len:ws.length=wN n
 full:∀w∈ws,w≤bQ n
instance (n:Nat)(ws:List Nat):Decidable (bO n ws):=decidable_of_iff (n≤16∧ws.length=wN n∧∀w∈ws,w≤bQ n) ⟨fun⟨a,b,c⟩=>⟨a,b,c⟩,fun⟨a,b,c⟩=>⟨a,b,c⟩⟩
def bit(ws:List Nat)(x:Nat):Bool:=(ws.getD (x/64) 0).testBit (x%64)
def au(x v:Nat)(b:Bool):Nat:=if b then x|||2^v else jL x (2^v)
theorem yC(n:Nat):0<wN n:=Nat.le_max_left _ _
theorem ql{n:Nat}(h:6≤n):wN n=2^(n-6):=by
 unfold wN
 have:2^n/64=2^(n-6):=by
  rw[show(64:Nat)=2^6 by rfl,Nat.pow_div h (by decide)]
 rw[this];exact Nat.max_eq_right (Nat.two_pow_pos _)
theorem qk{n:Nat}(h:n<7):wN n=1:=by
 have:n=0∨n=1∨n=2∨n=3∨n=4∨n=5∨n=6:=by omega
 rcases this with rfl|rfl|rfl|rfl|rfl|rfl|rfl<;>rfl
theorem pn{n:Nat}(h:n≤16):wN n≤1024:=by
 by_cases h6:6≤n
 ·rw[ql h6];exact Nat.pow_le_pow_right (by decide) (by omega:n-6≤10)
 ·rw[qk (by omega)];decide
theorem n3(n:Nat):bQ n<18446744073709551616:=by
 unfold bQ
 split
 ·decide
 ·have h1:2^n≤32:=Nat.pow_le_pow_right (n:=2) (by decide) (by omega:n≤5)
  have h2:2^2^n≤2^32:=Nat.pow_le_pow_right (by decide) h1
  omega
theorem bO.lt{n:Nat}{ws:List Nat}(h:bO n ws){w:Nat}(hw:w∈ws):w<18446744073709551616:=Nat.lt_of_le_of_lt (h.full w hw) (n3 n)
theorem kO{n w:Nat}(h:w≤bQ n):w&&&bQ n=w:=by
 unfold bQ at*
 split at h
 ·rename_i h6
  rw[if_pos h6,show(18446744073709551615:Nat)=2^64-1 by rfl,Nat.and_two_pow_sub_one_eq_mod,Nat.mod_eq_of_lt (by omega)]
 ·rename_i h6
  rw[if_neg h6,Nat.and_two_pow_sub_one_eq_mod,Nat.mod_eq_of_lt]
  have:=Nat.two_pow_pos (2^n);omega
theorem ed(n j:Nat):(bQ n).testBit j=decide (j<if 6≤n then 64 else 2^n):=by
 unfold bQ
 split
 ·rw[show(18446744073709551615:Nat)=2^64-1 by rfl,Nat.testBit_two_pow_sub_one]
 ·rw[Nat.testBit_two_pow_sub_one]
theorem nQ{n x:Nat}(h:x<2^n):x/64<wN n:=by
 by_cases h6:6≤n
 ·rw[ql h6]
  refine Nat.div_lt_of_lt_mul ?_
  rw[show(64:Nat)=2^6 by rfl,←Nat.pow_add]
  rwa [show 6+(n-6)=n by omega]
 ·have h1:2^n≤32:=Nat.pow_le_pow_right (n:=2) (by decide) (by omega:n≤5)
  rw[qk (by omega)];omega
theorem bO.ext{n:Nat}{a b:List Nat}(ha:bO n a)(hb:bO n b)(h:∀x,x<2^n→bit a x=bit b x):a=b:=by
 apply List.ext_getElem (by rw[ha.len,hb.len])
 intro i h1 h2
 apply Nat.eq_of_testBit_eq
 intro j
 have UA:=kO (ha.full _ (List.getElem_mem h1))
 have Rb:=kO (hb.full _ (List.getElem_mem h2))
 by_cases hj:j<(if 6≤n then 64 else 2^n)
 ·have YN:j<64:=by
   split at hj
   ·exact hj
   ·have h1:2^n≤32:=Nat.pow_le_pow_right (n:=2) (by decide) (by omega:n≤5)
    omega
  have hx:64*i+j<2^n:=by
   by_cases h6:6≤n
   ·have hi:i<2^(n-6):=by rw[←ql h6,←ha.len];exact h1
    have:2^n=64*2^(n-6):=by rw[show(64:Nat)=2^6 by rfl,←Nat.pow_add];congr 1;omega
    omega
   ·have hi:i<1:=by rw[←qk (show n<7 by omega),←ha.len];exact h1
    rw[if_neg h6]at hj;omega
  have:=h _ hx
  unfold bit at this
  rw[show(64*i+j) /64=i by omega,show(64*i+j)%64=j by omega]at this
  simpa[h1,h2]using this
 ·have hd:(bQ n).testBit j=false:=by rw[ed];simpa using hj
  rw[←UA,←Rb,Nat.testBit_and,Nat.testBit_and,hd];simp
def vj(v:Nat):Nat→Nat
 |0=>0
 |j+1=>vj v j|||(((j>>>v) &&&1)<<<j)
def mask(v:Nat):Nat:=vj v 64
theorem dY(m:Nat):m&&&1=if m.testBit 0 then 1 else 0:=by
 rw[Nat.and_one_is_mod,Nat.testBit_zero]
 rcases Nat.mod_two_eq_zero_or_one m with h|h<;>simp[h]
theorem nA(v:Nat):∀J k,(vj v J).testBit k=(decide (k<J) &&k.testBit v)
 |0,k=>by simp[vj]
 |J+1,k=>by
  rw[vj,Nat.testBit_or,nA v J k,dY,Nat.testBit_shiftRight,Nat.add_zero]
  by_cases e:k=J
  ·subst e
   cases hb:k.testBit v<;>simp[Nat.testBit_shiftLeft]
  ·have:((if(J.testBit v)=true then 1 else 0)<<<J).testBit k=false:=by
    rw[Nat.testBit_shiftLeft]
    split
    ·by_cases hk:J≤k
     ·have h1:Nat.testBit 1 (k-J)=false:=Nat.testBit_lt_two_pow (Nat.one_lt_two_pow (by omega))
      simp[hk,h1]
     ·simp[hk]
    ·simp
   rw[this]
   have:(decide (k<J+1))=decide (k<J):=by simp;omega
   rw[this];simp
theorem vi(v:Nat):∀J,vj v J<2^J
 |0=>by simp[vj]
 |J+1=>by
  have h1:=vi v J
  have h2:((J>>>v) &&&1)<<<J<2^(J+1):=by
   rw[dY,Nat.shiftLeft_eq]
   split
   ·rw[Nat.one_mul];exact Nat.pow_lt_pow_right (by decide) (by omega)
   ·rw[Nat.zero_mul];exact Nat.two_pow_pos _
  exact Nat.or_lt_two_pow (Nat.lt_of_lt_of_le h1 (Nat.pow_le_pow_right (by decide) (by omega))) h2
theorem cS(v k:Nat):(mask v).testBit k=(decide (k<64) &&k.testBit v):=nA v 64 k
theorem p8(v:Nat):mask v<18446744073709551616:=vi v 64
def cV(ws:List Nat)(v:Nat)(b:Bool)(i:Nat):Nat:=
 if 6≤v then ws.getD (au i (v-6) b) 0
 else if b then(ws.getD i 0&&&mask v)|||(ws.getD i 0&&&mask v)>>>2^v
 else jL (ws.getD i 0) (mask v)|||(jL (ws.getD i 0) (mask v)<<<2^v)%18446744073709551616
def dj(n:Nat)(ws:List Nat)(v:Nat)(b:Bool):List Nat:=(List.range (wN n)).map fun i=>cV ws v b i&&&bQ n
theorem cg{n v:Nat}{ws:List Nat}{b:Bool}(h:n≤16):bO n (dj n ws v b):=by
 refine⟨h,by simp[dj],fun w hw=>?_⟩
 obtain⟨i,_,rfl⟩:=List.mem_map.1 hw
 exact Nat.and_le_right
theorem ai(x v:Nat)(b:Bool)(k:Nat):(au x v b).testBit k=if k=v then b else x.testBit k:=by
 unfold au
 cases b<;>simp only[if_true,Bool.false_eq_true,if_false]
 ·rw[cD,Nat.testBit_two_pow]
  by_cases e:k=v
  ·simp[e]
  ·simp[e,Ne.symm e]
 ·rw[Nat.testBit_or,Nat.testBit_two_pow]
  by_cases e:k=v
  ·simp[e]
  ·simp[e,Ne.symm e]
theorem dc{x v n:Nat}{b:Bool}(hx:x<2^n)(hv:v<n):au x v b<2^n:=by
 unfold au
 split
 ·exact Nat.or_lt_two_pow hx (Nat.pow_lt_pow_right (by decide) hv)
 ·exact Nat.lt_of_le_of_lt (iB _ _) hx
theorem yK:∀v:Fin 6,∀j:Fin 64,(j.1.testBit v.1=true→au j v true=j∧au j v false=j-2^v.1∧2^v.1≤j.1∧(j.1+2^v.1).testBit v.1=false∧(j.1-2^v.1).testBit v.1=false)∧
  (j.1.testBit v.1=false→au j v true=j.1+2^v.1∧j.1+2^v.1<64∧au j v false=j∧(j.1+2^v.1).testBit v.1=true∧(2^v.1≤j.1→(j.1-2^v.1).testBit v.1=true)):=by decide+kernel
theorem mM{x v:Nat}{b:Bool}:(6≤v→au x v b/64=au (x/64) (v-6) b∧au x v b%64=x%64)∧(v<6→au x v b/64=x/64∧au x v b%64=au (x%64) v b):=by
 have Db:∀y:Nat,y/64=y>>>6:=fun y=>by rw[Nat.shiftRight_eq_div_pow]
 have m64:∀y:Nat,y%64=y%2^6:=fun y=>rfl
 refine⟨fun h=>⟨?_,?_⟩,fun h=>⟨?_,?_⟩⟩<;>apply Nat.eq_of_testBit_eq<;>intro k
 ·rw[Db,Db,Nat.testBit_shiftRight,ai,ai,Nat.testBit_shiftRight]
  by_cases e:k=v-6
  ·rw[if_pos e,if_pos (by omega)]
  ·rw[if_neg e,if_neg (by omega)]
 ·rw[m64 (au x v b),m64 x,Nat.testBit_mod_two_pow,Nat.testBit_mod_two_pow,ai]
  by_cases hk:k<6
  ·rw[if_neg (by omega)]
  ·simp[hk]
 ·rw[Db,Db,Nat.testBit_shiftRight,ai,Nat.testBit_shiftRight,if_neg (by omega)]
 ·rw[m64 (au x v b),m64 x,Nat.testBit_mod_two_pow,ai,ai,Nat.testBit_mod_two_pow]
  by_cases e:k=v
  ·subst e;simp[h]
  ·simp[e]
theorem dN{n v x:Nat}{ws:List Nat}{b:Bool}(hf:bO n ws)(hv:v<n)(hx:x<2^n):bit (dj n ws v b) x=bit ws (au x v b):=by
 have hi:=nQ hx
 unfold bit
 have fG:(dj n ws v b).getD (x/64) 0=cV ws v b (x/64) &&&bQ n:=by
  simp[dj,hi]
 rw[fG,Nat.testBit_and,ed]
 have Rb:decide (x%64<if 6≤n then 64 else 2^n)=true:=by
  rw[decide_eq_true_eq]
  split
  ·exact Nat.mod_lt _ (by decide)
  ·have h1:2^n≤32:=Nat.pow_le_pow_right (n:=2) (by decide) (by omega:n≤5)
   omega
 rw[Rb,Bool.and_true]
 unfold cV
 by_cases h6:6≤v
 ·rw[if_pos h6,(mM.1 h6).1,(mM.1 h6).2]
 ·rw[if_neg h6]
  obtain⟨e1,e2⟩:=(mM (x:=x) (v:=v) (b:=b)).2 (by omega)
  rw[e1,e2]
  generalize hw:ws.getD (x/64) 0=w
  have NX:w<2^64:=by
   rw[←hw]
   rw[List.getD_eq_getElem?_getD,List.getElem?_eq_getElem (by rw[hf.len];exact hi)]
   exact hf.lt (List.getElem_mem _)
  have hj:x%64<64:=Nat.mod_lt _ (by decide)
  generalize x%64=j at hj
  obtain⟨s1,s2⟩:=yK ⟨v,by omega⟩ ⟨j,hj⟩
  simp only at s1 s2
  cases b
  ·simp only[Bool.false_eq_true,if_false]
   rw[show(18446744073709551616:Nat)=2^64 by rfl,Nat.testBit_or,Nat.testBit_mod_two_pow,Nat.testBit_shiftLeft,cD,cD,cS,cS]
   cases hb:j.testBit v
   ·obtain⟨t1,t2,t3,t4,t5⟩:=s2 hb
    rw[t3]
    by_cases hle:2^v≤j
    ·have:=t5 hle
     have Db:j-2^v<64:=Nat.lt_of_le_of_lt (Nat.sub_le _ _) hj
     simp[hj,this,Db]
    ·simp[hj,hle]
   ·obtain⟨t1,t2,t3,t4,t5⟩:=s1 hb
    rw[t2]
    simp[hj,t3,t5]
  ·simp only[if_true]
   rw[Nat.testBit_or,Nat.testBit_and,Nat.testBit_shiftRight,Nat.testBit_and,cS,cS]
   cases hb:j.testBit v
   ·obtain⟨t1,t2,t3,t4,t5⟩:=s2 hb
    rw[t1,Nat.add_comm (2^v) j]
    simp[hj,t2,t4]
   ·obtain⟨t1,t2,t3,t4,t5⟩:=s1 hb
    rw[t1,Nat.add_comm (2^v) j]
    simp[hj,t4]
def dep(n:Nat)(ws:List Nat)(v:Nat):Bool:=decide (dj n ws v false≠dj n ws v true)
theorem iR(x v:Nat):au x v (x.testBit v)=x:=by
 apply Nat.eq_of_testBit_eq;intro k
 rw[ai]
 by_cases e:k=v
 ·rw[if_pos e,e]
 ·rw[if_neg e]
theorem kK{n v:Nat}{ws:List Nat}{b:Bool}(hf:bO n ws)(hv:v<n)(h:dep n ws v=false):dj n ws v b=ws:=by
 have he:dj n ws v false=dj n ws v true:=by simpa[dep]using h
 have aB:∀c d,dj n ws v c=dj n ws v d:=by intro c d;cases c<;>cases d<;>first|rfl|exact he|exact he.symm
 refine(cg hf.jz).ext hf fun x hx=>?_
 rw[aB b (x.testBit v),dN hf hv hx,iR]
theorem qd{n v:Nat}{ws:List Nat}(hf:bO n ws)(hv:v<n):dep n ws v=true↔∃x,x<2^n∧bit ws (au x v false)≠bit ws (au x v true):=by
 constructor
 ·intro h
  refine Classical.byContradiction fun hno=>?_
  have:dj n ws v false=dj n ws v true:=(cg hf.jz).ext (cg hf.jz) fun x hx=>by
   rw[dN hf hv hx,dN hf hv hx]
   exact Classical.byContradiction fun hne=>hno ⟨x,hx,hne⟩
  simp[dep,this]at h
 ·rintro⟨x,hx,hne⟩
  simp only[dep,ne_eq,decide_eq_true_eq]
  intro he
  apply hne
  rw[←dN hf hv hx,←dN hf hv hx,he]
end af
namespace Go.Sx
open Go
inductive aG:Hp→Hp→Prop
 |refl (B:Hp):aG B B
 |cons {x:Nat×Obj} {B H:Hp} (h:aG B H):aG B (x::H)
 |app {N B H:Hp} (h:aG B H):aG B (N++H)
theorem aG.spec{B H:Hp}(h:aG B H):∃N,H=N++B:=by
 induction h with
 |refl=>exact⟨[],rfl⟩
 | @cons x B H h ih=>obtain⟨N,rfl⟩:=ih;exact⟨x::N,rfl⟩
 | @app M B H h ih=>obtain⟨N,rfl⟩:=ih;exact⟨M++N,by rw[List.append_assoc]⟩
theorem aG.sub{B H:Hp}(h:aG B H):∀x∈B,x∈H:=by
 obtain⟨N,rfl⟩:=h.spec;exact fun x hx=>List.mem_append_right _ hx
theorem aG.nr{B H:Hp}(h:aG B H):aJ H B:=by
 obtain⟨N,rfl⟩:=h.spec;exact aJ.right
section
variable {P:Program} {g:Gh} {H:Hp}
def Px(P:Program)(f:FuncId)(args:Array Value)(B:Hp)(Q:Value→Hp→Prop):Prop:=Fc P f args B (fun v H=>aG B H∧Q v H)
theorem ae.px{f:FuncId}{args:Array Value}{B H:Hp}{c:Hp→Hp}{Q:Value→Hp→Prop}{K:Value→Hp→Prop}{KP:List PanicEntry→Hp→Prop}(hh:bj B H c)(hc:Px P f args B Q)
 (hk:∀v N,Q v (N++B)→K v (c (N++B))):ae P g f args H K KP:=
 ae.fn hh hc fun v C' ⟨h1,h2⟩=>by obtain⟨N,rfl⟩:=h1.spec;exact hk v N h2
theorem ae.pre{f:FuncId}{args:Array Value}{H':Hp}{K:Value→Hp→Prop}{KP:List PanicEntry→Hp→Prop}(he:aJ H H')(h:ae P g f args H' K KP):ae P g f args H K KP:=bZ.pre h he
theorem aJ.swap{x y:Nat×Obj}{A:Hp}:aJ (x::y::A) (y::x::A):=.perm (.swap _ _ _)
theorem jS.mk{Q:Value→Hp→Prop}{v:Value}{B H:Hp}(he:aG B H)(h:Q v H):bN (fun v H=>aG B H∧Q v H) (.returned v) H:=⟨v,H,rfl,.refl _,he,h⟩
theorem bK.mk{Q:Value→Prop}{v:Value}{B H:Hp}(he:aJ H B)(h:Q v):bN (fun v H=>H=B∧Q v) (.returned v) H:=⟨v,B,rfl,he,rfl,h⟩
def az(kd:IntKind)(l:List Int):Array Value:=(l.map fun n=>Value.int kd n).toArray
theorem y7(kd:IntKind)(l:List Int)(i:Nat)(n:Int):(az kd l).setIfInBounds i (.int kd n)=az kd (l.set i n):=by
 simp[az,List.map_set]
@[simp] theorem My(kd:IntKind)(l:List Int):(az kd l).size=l.length:=by simp[az]
theorem Eg(kd:IntKind)(n:Nat):madeCells (Value.cells (.int kd 0)) (n*1)=az kd (List.replicate n 0):=by
 apply Array.ext
 ·simp[madeCells,az]
 ·intro i h1 h2
  simp[madeCells,az,Value.cells,Nat.mod_one]
def bW(kd:IntKind)(B:Hp)(v:Value)(l:List Int):Prop:=Sl 1 B v (l.map fun n=>[Value.int kd n])
theorem bW.mono{kd:IntKind}{B B':Hp}{v:Value}{l:List Int}(h:bW kd B v l)(hs:∀x∈B,x∈B'):bW kd B' v l:=Sl.mono h hs
theorem bW.aL{kd:IntKind}{B:Hp}{v:Value}{l:List Int}(h:bW kd B v l){K:Value→Prop}(hk:K (.int .i64 l.length)):aA v K:=Sl.aL h (by simpa using hk)
theorem bW.block{kd:IntKind}{B:Hp}{b cap:Nat}{l:List Int}{T:TypeId}{fz:Nat×Nat}(hm:(b,Obj.cells (az kd l) T fz)∈B)(hc:l.length≤cap):bW kd B (.slice (some ⟨b,0,none⟩) l.length cap) l:=by
 refine⟨by simp,.inr ⟨b,0,cap,_,T,fz,by simp,by simpa using hc,hm,by simp[az],fun i r hi j v hj=>?_⟩⟩
 rw[List.getElem?_map]at hi
 cases hl:l[i]? with
 |none=>rw[hl]at hi;simp at hi
 |some n=>
  rw[hl]at hi
  simp only[Option.map_some,Option.some.injEq]at hi
  subst hi
  cases j with
  |zero=>
   simp only[List.getElem?_cons_zero,Option.some.injEq]at hj
   subst hj
   simp[az,hl]
  |succ j=>simp at hj
theorem bW.at{kd qY:IntKind}{B:Hp}{v:Value}{l:List Int}(h:bW kd B v l){i:Nat}{n:Int}(hi:l[i]? =some n){K:Value→Prop}(hk:∀p,At B p [.int kd n]→K p):aj 1 v (.int qY (i:Int)) K:=
 aj.sl h (by rw[List.getElem?_map,hi];rfl) hk
theorem bW.ld{kd qY:IntKind}{B:Hp}{v:Value}{l:List Int}(h:bW kd B v l){i:Nat}{n:Int}(hi:l[i]? =some n)(hs:∀x∈B,x∈H){K:Value→Prop}(hk:K (.int kd n)):aj 1 v (.int qY (i:Int)) (fun p=>Ld H p K):=
 h.at hi fun p hp=>Ld.at hp hs hk
theorem br.ints{T:TypeId}{kd kl:IntKind}{bytes n:Nat}{K:Value→Hp→Prop}(aV:n≤9223372036854775807)(hb:n*bytes≤281474976710656)
 (h:∀b,K (.slice (some ⟨b,0,none⟩) n n) ((b,.cells (az kd (List.replicate n 0)) T (0,0))::H)):br T 1 bytes (.int kd 0) H (.int kl n) (.int kl n) K:=
 ⟨kl,kl,n,n,rfl,rfl,Nat.le_refl _,by omega,hb,fun b _=>by rw[Eg];exact h b⟩
theorem St.ints{b i:Nat}{kd:IntKind}{l:List Int}{x:Int}{T:TypeId}{H':Hp}{K:Hp→Prop}(hu:cA b (.cells (az kd l) T (0,0)) (.cells (az kd (l.set i x)) T (0,0)) H H')(hi:i<l.length)(h:K H'):
  St 1 H (.pointer (some ⟨b,0+i*1,none⟩)) (.int kd x) K:=
 St.one (c:=az kd l) (c':=az kd (l.set i x)) hu rfl (by simpa using hi) (by rw[Nat.zero_add,Nat.mul_one];exact y7 kd l i x) h
end
def aT:List Value→Nat→Nat
 | .int _ q::_,0=>q.toNat
 |_::r,i+1=>aT r i
 |_,_=>0
structure Tb where
 n:Int
 ws:List Nat
 deriving DecidableEq
def iw(ws:List Nat):List Int:=ws.map (Nat.cast:Nat→Int)
@[simp] theorem ah(ws:List Nat):(iw ws).length=ws.length:=by simp[iw]
theorem bR{ws:List Nat}{i w:Nat}(h:ws[i]? =some w):(iw ws)[i]? =some (w:Int):=by simp[iw,h]
def Words(B:Hp)(s:Value)(ws:List Nat):Prop:=bW .u64 B s (iw ws)∧∀w∈ws,w<18446744073709551616
theorem Words.mono{B B':Hp}{v:Value}{ws:List Nat}(h:Words B v ws)(hs:∀x∈B,x∈B'):Words B' v ws:=⟨h.1.mono hs,h.2⟩
theorem Words.block{B:Hp}{b cap:Nat}{ws:List Nat}{T:TypeId}{fz:Nat×Nat}(hm:(b,Obj.cells (az .u64 (iw ws)) T fz)∈B)(hc:ws.length≤cap)(hw:∀w∈ws,w<18446744073709551616):Words B (.slice (some ⟨b,0,none⟩) ws.length cap) ws:=by
 have:=bW.block (cap:=cap) hm (by simpa using hc)
 rw[ah]at this
 exact⟨this,hw⟩
def iL(B:Hp)(v:Value)(t:Tb):Prop:=∃s,v=.agg #[.int .i64 t.n,s]∧Words B s t.ws
theorem iL.mono{B B':Hp}{v:Value}{t:Tb}(h:iL B v t)(hs:∀x∈B,x∈B'):iL B' v t:=let ⟨s,h1,h2⟩:=h;⟨s,h1,h2.mono hs⟩
def z4(B:Hp)(r:List Value)(t:Tb):Prop:=∃s,r=[.int .i64 t.n,s]∧Words B s t.ws
theorem z4.mono{B B':Hp}{r:List Value}{t:Tb}(h:z4 B r t)(hs:∀x∈B,x∈B'):z4 B' r t:=let ⟨s,h1,h2⟩:=h;⟨s,h1,h2.mono hs⟩
def fR{α:Type}(p:List Value→α→Prop)(rs:List (List Value))(l:List α):Prop:=rs.length=l.length∧∀(i:Nat) (r:List Value) (x:α),rs[i]? =some r→l[i]? =some x→p r x
theorem fR.nil{α:Type}{p:List Value→α→Prop}:fR p [] []:=⟨rfl,by simp⟩
theorem fR.get{α:Type}{p:List Value→α→Prop}{rs:List (List Value)}{l:List α}(h:fR p rs l){i:Nat}{x:α}(hx:l[i]? =some x):∃r,rs[i]? =some r∧p r x:=by
 have hlt:=(List.getElem?_eq_some_iff.1 hx).1
 have:i<rs.length:=by rw[h.1];exact hlt
 exact⟨rs[i],List.getElem?_eq_getElem this,h.2 i _ _ (List.getElem?_eq_getElem this) hx⟩
theorem fR.mono{α:Type}{p q:List Value→α→Prop}{rs:List (List Value)}{l:List α}(h:fR p rs l)(hpq:∀r x,p r x→q r x):fR q rs l:=⟨h.1,fun i r x h1 h2=>hpq _ _ (h.2 i r x h1 h2)⟩
theorem fR.snoc{α:Type}{p:List Value→α→Prop}{rs:List (List Value)}{l:List α}(h:fR p rs l){r:List Value}{x:α}(hx:p r x):fR p (rs++[r]) (l++[x]):=by
 refine⟨by simp[h.1],fun i r' x' h1 h2=>?_⟩
 by_cases e:i<l.length
 ·rw[List.getElem?_append_left e]at h2
  rw[List.getElem?_append_left (by rw[h.1];exact e)]at h1
  exact h.2 i _ _ h1 h2
 ·rw[List.getElem?_append_right (by omega)]at h2
  rw[List.getElem?_append_right (by rw[h.1];omega),h.1]at h1
  cases hi:i-l.length with
  |zero=>rw[hi]at h1 h2;simp at h1 h2;subst h1;subst h2;exact hx
  |succ k=>rw[hi]at h2;simp at h2
def bV(B:Hp)(v:Value)(ts:List Tb):Prop:=∃rs,Sl 2 B v rs∧fR (z4 B) rs ts
theorem bV.mono{B B':Hp}{v:Value}{ts:List Tb}(h:bV B v ts)(hs:∀x∈B,x∈B'):bV B' v ts:=let ⟨rs,h1,h2⟩:=h;⟨rs,h1.mono hs,h2.mono fun _ _ h=>h.mono hs⟩
theorem bV.aL{B:Hp}{v:Value}{ts:List Tb}(h:bV B v ts){K:Value→Prop}(hk:K (.int .i64 ts.length)):aA v K:=by
 obtain⟨rs,h1,h2⟩:=h;refine h1.aL ?_;have:=h2.1;rw[this];exact hk
theorem bV.ld{B H:Hp}{v:Value}{ts:List Tb}{kd:IntKind}(h:bV B v ts){i:Nat}{t:Tb}(hi:ts[i]? =some t)(hs:∀x∈B,x∈H){K:Value→Prop}(hk:∀s,Words B s t.ws→K (.agg #[.int .i64 t.n,s])):aj 2 v (.int kd (i:Int)) (fun p=>av 2 H p K):=by
 obtain⟨rs,h1,h2⟩:=h
 obtain⟨r,hr,s,rfl,hw⟩:=h2.get hi
 exact aj.sl h1 hr fun p hp=>av.at hp rfl (by decide) hs (hk s hw)
theorem bV.NO{B H:Hp}{v:Value}{ts:List Tb}{kd:IntKind}(h:bV B v ts){i:Nat}{t:Tb}(hi:ts[i]? =some t)(hs:∀x∈B,x∈H){K:Value→Prop}(hk:K (.int .i64 t.n)):aj 2 v (.int kd (i:Int)) (fun p=>ag 0 p (fun q=>Ld H q K)):=by
 obtain⟨rs,h1,h2⟩:=h
 obtain⟨r,hr,s,rfl,hw⟩:=h2.get hi
 exact aj.sl h1 hr fun p hp=>ag.at hp fun q hq=>Ld.at hq hs hk
theorem bV.one{B:Hp}{b cap:Nat}{t:Tb}{s:Value}{T:TypeId}{fz:Nat×Nat}(hm:(b,Obj.cells #[.int .i64 t.n,s] T fz)∈B)(hw:Words B s t.ws):bV B (.slice (some ⟨b,0,none⟩) 1 (cap+1)) [t]:=by
 refine⟨[[.int .i64 t.n,s]],⟨by simp,.inr ⟨b,0,cap+1,_,T,fz,rfl,by simp,hm,by simp,fun i r hi j v hj=>?_⟩⟩,rfl,fun i r x h1 h2=>?_⟩
 ·cases i with
  |zero=>simp at hi;subst hi;simpa using hj
  |succ i=>simp at hi
 ·cases i with
  |zero=>simp at h1 h2;subst h1;subst h2;exact⟨s,rfl,hw⟩
  |succ i=>simp at h1
def TF(t:Tb):Prop:=0≤t.n∧af.bO t.n.toNat t.ws
instance (t:Tb):Decidable (TF t):=by unfold TF;infer_instance
end Go.Sx
namespace Go.Sx
open Go Go.RowKit
section
variable {P:Program}
def whole(W:World):Hp:=(List.range W.heap.size).map fun i=>(i,W.heap.getD i default)
theorem tt(W:World):Own ⟨W,[]⟩ (whole W) W:=by
 refine⟨rfl,rfl,rfl,?_,?_⟩
 ·have:(whole W).map Prod.fst=List.range W.heap.size:=by
   unfold whole
   rw[List.map_map]
   have:(Prod.fst∘fun i=>(i,W.heap.getD i default))=id:=by funext i;rfl
   rw[this,List.map_id]
  rw[List.append_nil,this];exact List.nodup_range
 ·intro x hx
  rw[List.append_nil]at hx
  obtain⟨i,hi,rfl⟩:=List.mem_map.1 hx
  have:=List.mem_range.1 hi
  simp[Array.getD_eq_getD_getElem?,this]
theorem tA{W:World}{b:Nat}{o:Obj}(h:W.heap[b]? =some o):(b,o)∈whole W:=by
 have hlt:=(Array.getElem?_eq_some_iff.1 h).1
 exact List.mem_map.2 ⟨b,List.mem_range.2 hlt,by simp[Array.getD_eq_getD_getElem?,h]⟩
theorem Own.below{W W':World}(h:Own ⟨W,[]⟩ (whole W) W'):Below W.heap.size W W':=by
 have hb:∀k,k<W.heap.size→W'.heap[k]? =W.heap[k]? :=fun k hk=>by
  have:=h.has (k,W.heap.getD k default) (List.mem_map.2 ⟨k,List.mem_range.2 hk,rfl⟩)
  simp only at this
  rw[this];simp[Array.getD_eq_getD_getElem?,hk]
 refine⟨h.os,h.tape,h.out,?_,hb⟩
 rcases Nat.eq_zero_or_pos W.heap.size with h0|h0
 ·omega
 ·have:=hb (W.heap.size-1) (by omega)
  rw[show W.heap[W.heap.size-1]? =some (W.heap[W.heap.size-1]'(by omega))from Array.getElem?_eq_getElem (by omega)]at this
  have:=(Array.getElem?_eq_some_iff.1 this).1
  omega
theorem Ek{f:FuncId}{args:Array Value}{W:World}(h:bZ P ⟨W,[]⟩ f args (whole W) (fun e H'=>e=.returned (.bool true)∧aJ H' (whole W))):
  Calls P f args W fun e W'=>e=.returned (.bool true)∧Below W.heap.size W W':=
 (h W (tt W)).mono fun e W' ⟨H',ho,he,rA⟩=>⟨he,(rA _ _ ho).below⟩
theorem NP{f:FuncId}{args:Array Value}{W:World}(h:Px P f args (whole W) (fun v _=>v=.bool true)):
  Calls P f args W fun e W'=>e=.returned (.bool true)∧Below W.heap.size W W':=
 Ek ((h ⟨W,[]⟩).post fun e H' ⟨v,C,he,rA,hg,hv⟩=>⟨H',.refl _,by rw[he,hv],rA.trans hg.nr⟩)
section
variable {H:Type} {enc:TypeId×Value→H}
open Go.ChangeShapes Go.WideShapes Go.ChangeAt Go.RowKit
theorem mi(hl:laidOutB P=true){W W':World}{sp:Nat→Bool}(hb:Below W.heap.size W W'):∀(ts:List TypeId) (vs:List Value) (ds:List (DataW H)) (ps:List MemPlace),
  (∀t∈ts,P.readableRec t=true∧t<P.types.size)→DataW.TrodAll enc P W 0 (fun _=>true) true ts vs ds ps→(∀x∈ps,x.block<W.heap.size)→(∀x∈ps,sp x.block=true)→DataW.TrodAll enc P W' 0 sp true ts vs ds ps
 | [],vs,ds,ps,_,h,_,_=>by
  obtain⟨rfl,rfl,rfl⟩:=trodAll_nil h;exact trodAll_mk0
 |t::ts,vs,ds,ps,hr,h,hlt,hsp=>by
  obtain⟨v,vs',d,ds',p,q,rfl,rfl,rfl,h0,h1⟩:=trodAll_cons h
  have ht:=hr t (by simp)
  exact trodAll_cons_mk (WideElems.Trod_stays hl ht.1 ht.2 h0 (fun x hx=>hb.same (hlt x (by simp[hx]))) (fun x hx=>hsp x (by simp[hx])))
   (mi hl hb ts vs' ds' q (fun t' h'=>hr t' (by simp[h'])) h1 (fun x hx=>hlt x (by simp[hx])) (fun x hx=>hsp x (by simp[hx])))
theorem HE{f:Func}{s:ChangeSpec}{W W':World}{args:Array Value}{ds gs:List (DataW H)}{before:List MemPlace}{tb:TypeId}(hvars:s.vars=[])
 (hW:DataW.Whole enc P f.params.toList s.vars false W args.toList ds gs before)(hs:s.fn H (ds++gs)={results:=[.lit (.bool true)],args:=ds})(hb:Below W.heap.size W W')
 (hl:laidOutB P=true)(hr:∀t∈f.params.toList,P.readableRec t=true∧t<P.types.size)(Qz:f.resultTypes=#[tb])(Ro:P.underlying tb=some .bool):
  s.post enc P f false true false false W args (.bool true) W':=by
 have SY:=hW
 have hlt:=hW.lt
 obtain⟨p,q,hA,hV,rfl,hfz,fB⟩:=hW
 rw[hvars]at hV
 obtain⟨rfl,rfl⟩:=trodVars_none hV
 refine⟨ds,_,_,[],p,[],SY,?_,?_,?_,World.keptBut_mono (fun p hp=>⟨hp,?_⟩) (hb.frame (· ∈p++[])),fun h=>by cases h⟩
 ·rw[hs,Qz];exact trodAll_cons_mk (shut_bool Ro _) trodAll_mk0
 ·rw[hs]
  exact mi hl hb _ _ _ _ hr hA (fun x hx=>hlt x (by simp[hx])) (fun x hx=>by simpa using hlt x (by simp[hx]))
 ·rw[hvars,hs];rfl
 ·right;simpa using hp
end
end
end Go.Sx
namespace Go.Sx
open Go
section
variable {P:Program} {g:Gh} {H:Hp}
theorem an.cell{t e:TypeId}{z x:Value}{K:Value→Hp→Prop}(h1:P.underlying t=some (.slice e))(h2:cT P e=some 1)(h3:dR P e=some z)(hx:x.oneCell'=true)
 (h:∀b,K (.slice (some ⟨b,0,Option.none⟩) 1 1) ((b,.cells #[x] e (0,0))::H)):an P t 1 [(0,x)] H K:=by
 refine⟨#[x],e,1,z,h1,h2,h3,by omega,?_,fun b _=>h b⟩
 have X8:x.cells=#[x]:=by cases x<;>first|rfl|(simp[Value.oneCell']at hx)
 have:((Array.range (1*1)).map (z.cells[· %z.cells.size]!))=[z.cells[0%z.cells.size]!].toArray:=by
  rw[show Array.range (1*1)=#[0]by decide];simp
 rw[this]
 refine jG _ _ _ ?_
 simp only[rM,X8]
 rfl
theorem aO.W3{T:TypeId}{v x:Value}{rs:List (List Value)}{C:Hp}(hs:aO T 1 v rs C){i:Nat}(hi:i<rs.length)(hr:rs[i]? =some [x])(hC:∀y∈C,y∈H){K:Value→Prop}(hk:K x):
  aj 1 v (.int .i64 (i:Int)) fun p=>Ld H p K:=by
 obtain⟨b',aD,rfl,rfl,aB⟩:=hs.pos (by omega)
 refine aj.nat hi ?_
 exact Ld.P3 (l:=rs++aD) (hC _ (List.Mem.head _)) aB (by rw[List.getElem?_append_left hi];exact hr) hk
theorem aO.Ty{T:TypeId}{v x y:Value}{rs:List (List Value)}{C A B:Hp}(hs:aO T 1 v rs C){i:Nat}(hi:i<rs.length)(hr:rs[i]? =some [y])(h1:x.oneCell'=true){K:Hp→Prop}
 (hk:∀C',aO T 1 v (rs.set i [x]) C'→K (A++(C'++B))):aj 1 v (.int .i64 (i:Int)) fun p=>St 1 (A++(C++B)) p x K:=by
 obtain⟨b',aD,rfl,rfl,aB⟩:=hs.pos (by omega)
 refine aj.nat hi ?_
 refine St.cell (l:=rs++aD) (i:=i) (k:=1) (j:=0) (r:=[y]) (((cA.head _).append B).bP A) aB (by rw[List.getElem?_append_left hi];exact hr) (by omega) h1 ?_
 have e:(rs++aD).set i ([y].set 0 x)=rs.set i [x]++aD:=by rw[List.set_append_left _ _ hi];rfl
 rw[e]
 refine hk [(b',_)] (aO.mk' (aD:=aD) (fun r hr'=>?_) (by simp) (by simp))
 rcases List.mem_append.1 hr' with hr'|hr'
 ·rcases List.mem_or_eq_of_mem_set hr' with hr'|rfl
  ·exact aB r (by simp[hr'])
  ·rfl
 ·exact aB r (by simp[hr'])
end
end Go.Sx
namespace Go.Sx
open Go
section
variable {κ β:Type} [DecidableEq κ]
structure aX(ke:κ→Value)(vr:Value→β→Prop)(es:Array MapEntry)(ck:Nat)(m:List (κ×β)):Prop where
 len:es.size=m.length
 key:∀(i:Nat) (e:MapEntry) (x:κ×β),es[i]? =some e→m[i]? =some x→e.key=ke x.1∧vr e.val x.2
 nd:(m.map Prod.fst).Nodup
 born:(es.toList.map MapEntry.born).Nodup
 lt:∀e∈es.toList,e.born<ck
variable {ke:κ→Value} {vr:Value→β→Prop} {es:Array MapEntry} {ck:Nat} {m:List (κ×β)}
theorem aX.empty:aX ke vr #[] 0 []:=⟨rfl,by simp,by simp,by simp,by simp⟩
theorem aX.mono{GA:Value→β→Prop}(h:aX ke vr es ck m)(hv:∀v x,vr v x→GA v x):aX ke GA es ck m:=⟨h.len,fun i e x h1 h2=>⟨(h.key i e x h1 h2).1,hv _ _ (h.key i e x h1 h2).2⟩,h.nd,h.born,h.lt⟩
def fi(m:List (κ×β))(k:κ)(x:β):List (κ×β):=if k∈m.map Prod.fst then m.map (fun y=>if y.1=k then(k,x)else y)else m++[(k,x)]
def dn(m:List (κ×β))(k:κ):Option β:=(m.find? (fun y=>y.1=k)).map Prod.snd
theorem fN{m:List (κ×β)}{k:κ}{x:β}(nd:(m.map Prod.fst).Nodup):dn m k=some x↔(k,x)∈m:=by
 induction m with
 |nil=>simp[dn]
 |cons y r ih=>
  rw[List.map_cons,List.nodup_cons]at nd
  obtain⟨a,b⟩:=y
  simp only[dn,List.find?_cons]at ih⊢
  by_cases e:a=k
  ·subst e
   simp only[decide_true,Option.map_some,Option.some.injEq,List.mem_cons,Prod.mk.injEq,true_and]
   constructor
   ·intro h;exact .inl h.symm
   ·rintro(h|h)
    ·exact h.symm
    ·exact absurd (List.mem_map.2 ⟨_,h,rfl⟩) nd.1
  ·simp only[e,decide_false,List.mem_cons,Prod.mk.injEq,Ne.symm e,false_and,false_or]
   exact ih nd.2
theorem gF{m:List (κ×β)}{k:κ}:dn m k=none↔k∉m.map Prod.fst:=by
 simp only[dn,Option.map_eq_none_iff,List.find?_eq_none,decide_eq_true_eq,List.mem_map,not_exists,not_and]
theorem aX.findNow{kd:TypeDesc}(hk:∀a b,Instr.sameNow kd (ke a) (ke b)=some (decide (a=b)))(h:aX ke vr es ck m)(k:κ):
  (∃(i:Nat) (x:β) (e:MapEntry),es[i]? =some e∧m[i]? =some (k,x)∧vr e.val x∧Instr.findNow kd (ke k) es.toList 0=some (some (i,e.val)))∨(k∉m.map Prod.fst∧Instr.findNow kd (ke k) es.toList 0=some none):=by
 have key:∀(l:List MapEntry) (q:List (κ×β)) (j:Nat),l.length=q.length→(∀(i:Nat) (e:MapEntry) (x:κ×β),l[i]? =some e→q[i]? =some x→e.key=ke x.1∧vr e.val x.2)→
   (∃(i:Nat) (x:β) (e:MapEntry),l[i]? =some e∧q[i]? =some (k,x)∧vr e.val x∧Instr.findNow kd (ke k) l j=some (some (j+i,e.val)))∨(k∉q.map Prod.fst∧Instr.findNow kd (ke k) l j=some none):=by
  intro l
  induction l with
  |nil=>intro q j hl _;cases q with|nil=>exact .inr ⟨by simp,rfl⟩|cons a b=>simp at hl
  |cons e r ih=>
   intro q j hl hkey
   cases q with
   |nil=>simp at hl
   |cons y q=>
    obtain⟨h1,h2⟩:=hkey 0 e y rfl rfl
    simp only[Instr.findNow,h1,hk]
    by_cases e0:k=y.1
    ·subst e0
     exact .inl ⟨0,y.2,e,rfl,rfl,h2,by simp⟩
    ·rw[decide_eq_false e0]
     rcases ih q (j+1) (by simpa using hl) (fun i e x h1 h2=>hkey (i+1) e x (by simpa using h1) (by simpa using h2))with⟨i,x,e',g1,g2,g3,g4⟩|⟨g1,g2⟩
     ·exact .inl ⟨i+1,x,e',by simpa using g1,by simpa using g2,g3,by simp only[g4];rw[show j+1+i=j+(i+1)by omega]⟩
     ·exact .inr ⟨by rw[List.map_cons,List.mem_cons];rintro(h|h);exact e0 h;exact g1 h,by simpa using g2⟩
 have:=key es.toList m 0 (by simpa using h.len) (fun i e x h1 h2=>h.key i e x (by simpa using h1) h2)
 rcases this with⟨i,x,e,g1,g2,g3,g4⟩|h2
 ·exact .inl ⟨i,x,e,by simpa using g1,g2,g3,by simpa using g4⟩
 ·exact .inr h2
theorem aX.xC{P:Program}{kt:TypeId}(hk:∀a b,Ca P kt (ke a) (ke b) (decide (a=b)))(h:aX ke vr es ck m)(k:κ):
  (∃(i:Nat) (x:β) (e:MapEntry),es[i]? =some e∧m[i]? =some (k,x)∧vr e.val x∧jU P kt (ke k) es.toList 0 (some (i,e.val)))∨(k∉m.map Prod.fst∧jU P kt (ke k) es.toList 0 none):=by
 have key:∀(l:List MapEntry) (q:List (κ×β)) (j:Nat),l.length=q.length→(∀(i:Nat) (e:MapEntry) (x:κ×β),l[i]? =some e→q[i]? =some x→e.key=ke x.1∧vr e.val x.2)→
   (∃(i:Nat) (x:β) (e:MapEntry),l[i]? =some e∧q[i]? =some (k,x)∧vr e.val x∧jU P kt (ke k) l j (some (j+i,e.val)))∨(k∉q.map Prod.fst∧jU P kt (ke k) l j none):=by
  intro l
  induction l with
  |nil=>intro q j hl _;cases q with|nil=>exact .inr ⟨by simp,rfl⟩|cons a b=>simp at hl
  |cons e r ih=>
   intro q j hl hkey
   cases q with
   |nil=>simp at hl
   |cons y q=>
    obtain⟨h1,h2⟩:=hkey 0 e y rfl rfl
    have hb:=hk k y.1
    rw[←h1]at hb
    by_cases e0:k=y.1
    ·refine .inl ⟨0,y.2,e,rfl,by rw[e0];rfl,h2,?_⟩
     exact⟨_,hb,fun _=>by simp,fun h=>by simp[e0]at h⟩
    ·rcases ih q (j+1) (by simpa using hl) (fun i e x h1 h2=>hkey (i+1) e x (by simpa using h1) (by simpa using h2))with⟨i,x,e',g1,g2,g3,g4⟩|⟨g1,g2⟩
     ·refine .inl ⟨i+1,x,e',by simpa using g1,by simpa using g2,g3,_,hb,fun h=>by simp[e0]at h,fun _=>?_⟩
      rw[show j+(i+1)=j+1+i by omega];exact g4
     ·exact .inr ⟨by rw[List.map_cons,List.mem_cons];rintro(h|h);exact e0 h;exact g1 h,_,hb,fun h=>by simp[e0]at h,fun _=>g2⟩
 have:=key es.toList m 0 (by simpa using h.len) (fun i e x h1 h2=>h.key i e x (by simpa using h1) h2)
 rcases this with⟨i,x,e,g1,g2,g3,g4⟩|h2
 ·exact .inl ⟨i,x,e,by simpa using g1,g2,g3,by simpa using g4⟩
 ·exact .inr h2
theorem aX.put(h:aX ke vr es ck m){i:Nat}{k:κ}{y x:β}{val:Value}(hi:m[i]? =some (k,y))(hv:vr val x):aX ke vr (es.modify i fun e=>{e with key:=ke k,val}) ck (fi m k x):=by
 have hmem:k∈m.map Prod.fst:=List.mem_map.2 ⟨_,List.mem_of_getElem? hi,rfl⟩
 have hlt:=(List.getElem?_eq_some_iff.1 hi).1
 have Qs:∀j z,m[j]? =some z→z.1=k→j=i:=fun j z hj hz=>by
  have hj':=(List.getElem?_eq_some_iff.1 hj).1
  have e1:(m.map Prod.fst)[j]? =some k:=by rw[List.getElem?_map,hj];simp[hz]
  have e2:(m.map Prod.fst)[i]? =some k:=by rw[List.getElem?_map,hi];rfl
  exact(List.getElem?_inj (by simpa using hj') h.nd).1 (e1.trans e2.symm)
 have hb:((es.modify i fun e=>{e with key:=ke k,val}).toList.map MapEntry.born)=es.toList.map MapEntry.born:=by
  apply List.ext_getElem?;intro j
  simp only[List.getElem?_map,Array.getElem?_toList,Array.getElem?_modify]
  split
  ·cases es[j]? <;>rfl
  ·rfl
 refine⟨by simp[fi,hmem,h.len],fun j e z he hz=>?_,?_,by rw[hb];exact h.born,fun e he=>?_⟩
 ·simp only[fi,hmem,if_true,List.getElem?_map]at hz
  rw[Array.getElem?_modify]at he
  cases hm:m[j]? with
  |none=>rw[hm]at hz;simp at hz
  |some z0=>
   rw[hm]at hz
   simp only[Option.map_some,Option.some.injEq]at hz
   cases Re:es[j]? with
   |none=>rw[Re]at he;split at he<;>simp at he
   |some e0=>
    rw[Re]at he
    by_cases ek:z0.1=k
    ·have:=Qs j z0 hm ek
     subst this
     rw[if_pos ek]at hz;subst hz
     simp only[if_true,Option.map_some,Option.some.injEq]at he
     subst he;exact⟨rfl,hv⟩
    ·rw[if_neg ek]at hz;subst hz
     rw[if_neg (fun e=>by subst e;rw[hi]at hm;cases hm;exact ek rfl)]at he
     simp only[Option.some.injEq]at he
     subst he;exact h.key j _ _ Re hm
 ·have:(fi m k x).map Prod.fst=m.map Prod.fst:=by
   simp only[fi,hmem,if_true,List.map_map]
   apply List.map_congr_left
   intro z _
   simp only[Function.comp]
   split
   ·rename_i hz;exact hz.symm
   ·rfl
  rw[this];exact h.nd
 ·have:e.born∈(es.modify i fun e=>{e with key:=ke k,val}).toList.map MapEntry.born:=List.mem_map_of_mem he
  rw[hb]at this
  obtain⟨e0,h1,h2⟩:=List.mem_map.1 this
  rw[←h2];exact h.lt e0 h1
theorem aX.more(h:aX ke vr es ck m){k:κ}{x:β}{val:Value}(hk:k∉m.map Prod.fst)(hv:vr val x):aX ke vr (es.push {key:=ke k,val,born:=ck}) (ck+1) (fi m k x):=by
 have hs:fi m k x=m++[(k,x)]:=by unfold fi;rw[if_neg hk]
 rw[hs]
 refine⟨by simp[h.len],fun j e z he hz=>?_,?_,?_,fun e he=>?_⟩
 ·by_cases hj:j<m.length
  ·rw[List.getElem?_append_left hj]at hz
   rw[Array.getElem?_push,if_neg (by rw[h.len];omega)]at he
   exact h.key j _ _ he hz
  ·have MP:=(List.getElem?_eq_some_iff.1 hz).1
   simp only[List.length_append,List.length_cons,List.length_nil]at MP
   have:j=m.length:=by omega
   subst this
   rw[List.getElem?_append_right (Nat.le_refl _)]at hz
   simp at hz;subst hz
   rw[Array.getElem?_push,if_pos h.len.symm]at he
   simp at he;subst he
   exact⟨rfl,hv⟩
 ·rw[List.map_append,List.nodup_append]
  refine⟨h.nd,by simp,fun a ha b hb=>?_⟩
  simp at hb;subst hb;rintro rfl;exact hk ha
 ·rw[Array.toList_push,List.map_append,List.nodup_append]
  refine⟨h.born,by simp,fun a ha b hb=>?_⟩
  simp at hb;subst hb
  obtain⟨e,he,rfl⟩:=List.mem_map.1 ha
  have:=h.lt e he;omega
 ·rw[Array.toList_push,List.mem_append]at he
  rcases he with he|he
  ·have:=h.lt e he;omega
  ·simp at he;subst he;simp
variable {H:Hp} {b:Nat}
theorem aX.hit{kd:TypeDesc}{zero:Value}{ok:Bool}{k:κ}{x:β}{K:Value→Prop}(hk:∀a b,Instr.sameNow kd (ke a) (ke b)=some (decide (a=b)))(h:aX ke vr es ck m)(hm:(b,Obj.map es ck)∈H)(hx:dn m k=some x)
 (h1:∀v,vr v x→K (cond ok (.tuple #[v,.bool true]) v)):jY kd zero ok H (.map (some b)) (ke k) K:=by
 rcases h.findNow hk k with⟨i,y,e,g1,g2,g3,g4⟩|⟨g1,g2⟩
 ·have:dn m k=some y:=(fN h.nd).2 (List.mem_of_getElem? g2)
  rw[hx]at this;cases this
  exact⟨es,_,.inr ⟨b,ck,rfl,hm⟩,g4,h1 _ g3⟩
 ·rw[gF.2 g1]at hx;cases hx
theorem aX.bg{kd:TypeDesc}{zero:Value}{ok:Bool}{k:κ}{K:Value→Prop}(hk:∀a b,Instr.sameNow kd (ke a) (ke b)=some (decide (a=b)))(h:aX ke vr es ck m)(hm:(b,Obj.map es ck)∈H)(hx:dn m k=none)
 (h1:K (cond ok (.tuple #[zero,.bool false]) zero)):jY kd zero ok H (.map (some b)) (ke k) K:=by
 rcases h.findNow hk k with⟨i,y,e,g1,g2,g3,g4⟩|⟨g1,g2⟩
 ·exact absurd (List.mem_map.2 ⟨_,List.mem_of_getElem? g2,rfl⟩) (gF.1 hx)
 ·exact⟨es,_,.inr ⟨b,ck,rfl,hm⟩,g2,h1⟩
theorem aX.bS{kd:TypeDesc}{k:κ}{x:β}{val:Value}{K:Hp→Prop}(hk:∀a b,Instr.sameNow kd (ke a) (ke b)=some (decide (a=b)))(hb:∀a,Instr.sameBits 10000 (ke a) (ke a)=true)(h:aX ke vr es ck m)(hv:vr val x)
 (h1:∀es' dw,aX ke vr es' dw (fi m k x)→∃H',cA b (.map es ck) (.map es' dw) H H'∧K H'):ez kd H (.map (some b)) (ke k) val K:=by
 rcases h.findNow hk k with⟨i,y,e,g1,g2,g3,g4⟩|⟨g1,g2⟩
 ·refine⟨b,es,ck,_,rfl,g4,fun e' he'=>?_,by rw[h.len];exact(List.getElem?_eq_some_iff.1 g2).1,h1 _ _ (h.put g2 hv)⟩
  rw[(h.key i e' _ he' g2).1];exact hb k
 ·exact⟨b,es,ck,_,rfl,g2,h1 _ _ (h.more g1 hv)⟩
theorem aX.Lu{P:Program}{kt:TypeId}{zero:Value}{ok:Bool}{k:κ}{x:β}{K:Value→Prop}(hk:∀a b,Ca P kt (ke a) (ke b) (decide (a=b)))(hc:∀a,mh P kt (ke a))(h:aX ke vr es ck m)(hm:(b,Obj.map es ck)∈H)(hx:dn m k=some x)
 (h1:∀v,vr v x→K (cond ok (.tuple #[v,.bool true]) v)):jj P kt zero ok H (.map (some b)) (ke k) K:=by
 rcases h.xC hk k with⟨i,y,e,g1,g2,g3,g4⟩|⟨g1,g2⟩
 ·have:dn m k=some y:=(fN h.nd).2 (List.mem_of_getElem? g2)
  rw[hx]at this;cases this
  exact⟨es,_,.inr ⟨b,ck,rfl,hm⟩,hc k,g4,h1 _ g3⟩
 ·rw[gF.2 g1]at hx;cases hx
theorem aX.CE{P:Program}{kt:TypeId}{zero:Value}{ok:Bool}{k:κ}{K:Value→Prop}(hk:∀a b,Ca P kt (ke a) (ke b) (decide (a=b)))(hc:∀a,mh P kt (ke a))(h:aX ke vr es ck m)(hm:(b,Obj.map es ck)∈H)(hx:dn m k=none)
 (h1:K (cond ok (.tuple #[zero,.bool false]) zero)):jj P kt zero ok H (.map (some b)) (ke k) K:=by
 rcases h.xC hk k with⟨i,y,e,g1,g2,g3,g4⟩|⟨g1,g2⟩
 ·exact absurd (List.mem_map.2 ⟨_,List.mem_of_getElem? g2,rfl⟩) (gF.1 hx)
 ·exact⟨es,_,.inr ⟨b,ck,rfl,hm⟩,hc k,g2,h1⟩
theorem aX.PN{P:Program}{kt:TypeId}{k:κ}{x:β}{val:Value}{K:Hp→Prop}(hk:∀a b,Ca P kt (ke a) (ke b) (decide (a=b)))(hc:∀a,mh P kt (ke a))(hb:∀a,Instr.sameBits 10000 (ke a) (ke a)=true)(h:aX ke vr es ck m)(hv:vr val x)
 (h1:∀es' dw,aX ke vr es' dw (fi m k x)→∃H',cA b (.map es ck) (.map es' dw) H H'∧K H'):jN P kt H (.map (some b)) (ke k) val K:=by
 rcases h.xC hk k with⟨i,y,e,g1,g2,g3,g4⟩|⟨g1,g2⟩
 ·refine⟨b,es,ck,_,rfl,hc k,g4,fun e' he'=>?_,by rw[h.len];exact(List.getElem?_eq_some_iff.1 g2).1,h1 _ _ (h.put g2 hv)⟩
  rw[(h.key i e' _ he' g2).1];exact hb k
 ·exact⟨b,es,ck,_,rfl,hc k,g2,h1 _ _ (h.more g1 hv)⟩
theorem aX.HC(h:aX ke vr es ck m)(hm:(b,Obj.map es ck)∈H){K:Value→Prop}(hk:K (.int .i64 m.length)):vy H (.map (some b)) K:=⟨_,rfl,.inr ⟨b,es,ck,rfl,hm,by rw[h.len];exact hk⟩⟩
def c4(es:Array MapEntry)(m:List (κ×β))(seen:Array Nat):List (κ×β):=((es.toList.zip m).filter fun p=> !seen.contains p.1.born).map Prod.snd
omit [DecidableEq κ] in
theorem qq(h:aX ke vr es ck m):c4 es m #[]=m:=by
 unfold c4
 rw[List.filter_eq_self.2 (by simp),←List.unzip_snd,List.unzip_zip]
 simpa using h.len
omit [DecidableEq κ] in
theorem vM(h:aX ke vr es ck m){seen:Array Nat}{i:Nat}{e:MapEntry}{x:κ×β}(he:es[i]? =some e)(hx:m[i]? =some x)(hs:e.born∉seen):(c4 es m seen).Perm (x::c4 es m (seen.push e.born)):=by
 unfold c4
 have hz:(es.toList.zip m)[i]? =some (e,x):=by rw[List.getElem?_zip_eq_some];exact⟨by simpa using he,hx⟩
 obtain⟨A,C,WT,hlen⟩:∃A C,es.toList.zip m=A++(e,x)::C∧A.length=i:=by
  obtain⟨hlt,hg⟩:=List.getElem?_eq_some_iff.1 hz
  exact⟨(es.toList.zip m).take i,(es.toList.zip m).drop (i+1),by rw[←hg,List.getElem_cons_drop,List.take_append_drop],by simp only[List.length_take];omega⟩
 have Ou:(es.toList.zip m).map (fun p=>p.1.born)=es.toList.map MapEntry.born:=by
  have:(es.toList.zip m).map Prod.fst=es.toList:=by rw[←List.unzip_fst,List.unzip_zip];simpa using h.len
  rw[show(fun p:MapEntry×(κ×β)=>p.1.born)=MapEntry.born∘Prod.fst from rfl,←List.map_map,this]
 have fB:=h.born
 rw[←Ou,WT,List.map_append,List.map_cons]at fB
 have QN:=List.perm_middle.nodup_iff.1 fB
 rw[List.nodup_cons,←List.map_append]at QN
 have hne:∀p∈A++C,p.1.born≠e.born:=fun p hp e0=>QN.1 (List.mem_map.2 ⟨p,hp,e0⟩)
 have MW:∀L:List (MapEntry×(κ×β)),(∀p∈L,p.1.born≠e.born)→(L.filter fun p=> !(seen.push e.born).contains p.1.born)=L.filter fun p=> !seen.contains p.1.born:=fun L hL=>by
  apply List.filter_congr
  intro p hp
  have:=hL p hp
  simp[Array.mem_push,this]
 rw[WT,List.filter_append,List.filter_append,List.filter_cons,List.filter_cons]
 rw[if_pos (by simpa using hs),if_neg (by simp),MW A fun p hp=>hne p (List.mem_append_left _ hp),MW C fun p hp=>hne p (List.mem_append_right _ hp)]
 rw[List.map_append,List.map_append,List.map_cons]
 exact List.perm_middle
omit [DecidableEq κ] in
theorem aX.next{bi bm:Nat}{seen:Array Nat}{K:Value→Hp→Prop}(h:aX ke vr es ck m)(hm:(bm,Obj.map es ck)∈H)(hi:(bi,Obj.mapIter (some bm) ck seen ck)∈H)
 (h1:∀e x seen',e∈es.toList→e.key=ke x.1→vr e.val x.2→(c4 es m seen).Perm (x::c4 es m seen')→seen'.back?=some e.born→es.find? (·.born==e.born)=some e→
   ∃H',cA bi (.mapIter (some bm) ck seen ck) (.mapIter (some bm) ck seen' ck) H H'∧K (.tuple #[.bool true,e.key,e.val]) H')
 (h2:c4 es m seen=[]→K (.tuple #[.bool false]) H):PF H (.pointer (some ⟨bi,0,none⟩)) K:=by
 refine⟨bi,some bm,ck,seen,ck,rfl,hi,es,ck,hm,fun e he=>⟨h.lt e he,h.lt e he⟩,fun e he hs=>?_,fun aB=>h2 ?_⟩
 ·obtain⟨i,hi',rfl⟩:=List.mem_iff_getElem.1 he
  have mr:i<m.length:=by rw[←h.len];simpa using hi'
  have g1:es[i]? =some es.toList[i]:=by rw[←Array.getElem?_toList];exact List.getElem?_eq_getElem hi'
  have g2:m[i]? =some m[i]:=List.getElem?_eq_getElem mr
  obtain⟨k1,k2⟩:=h.key i _ _ g1 g2
  refine h1 _ m[i] _ he k1 k2 (vM h g1 g2 hs) (by simp) ?_
  rw[←Array.find?_toList]
  have fB:=h.born
  rw[List.find?_eq_some_iff_append]
  refine⟨by simp,es.toList.take i,es.toList.drop (i+1),by rw[List.getElem_cons_drop,List.take_append_drop],fun a ha=>?_⟩
  simp only[Bool.not_eq_true',beq_eq_false_iff_ne,ne_eq]
  intro e0
  obtain⟨j,hj,rfl⟩:=List.mem_iff_getElem.1 ha
  simp only[List.length_take]at hj
  rw[List.getElem_take]at e0
  have:=(List.getElem_inj (by simpa using h.born) (xs:=es.toList.map MapEntry.born) (i:=j) (j:=i) (h₀:=by rw[List.length_map];omega) (h₁:=by rw[List.length_map];exact hi')).1 (by simpa using e0)
  omega
 ·unfold c4
  rw[List.filter_eq_nil_iff.2,List.map_nil]
  intro p hp
  have:=aB p.1 (List.of_mem_zip hp).1
  simpa using this
end
end Go.Sx
